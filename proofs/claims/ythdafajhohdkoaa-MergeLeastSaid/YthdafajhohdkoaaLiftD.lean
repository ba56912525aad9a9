/- Contract: lift.Apply, a text with edits. -/
import Derived.Test.YthdafajhohdkoaaLiftB
import Derived.Test.YthdafajhohdkoaaLiftC
namespace Go.Proofs.Ythdafajhohdkoaa
open Go.RowKit Go.Lab
theorem own_base {w : World} {B B' e size n : Nat} {v : Value} {xs : List Value} (h : w.ownsRow B' e size v n xs) (hB : B ≤ B') : w.ownsRow B e size v n xs :=
  ⟨h.1, h.2.imp id (fun ⟨g, cap, cur, a, b, c⟩ => ⟨g, cap, cur, a, Nat.le_trans hB b, c⟩)⟩
theorem SymssAt.lit3 {w : World} {u1 u2 u3 : Value} {a b c : List Sym} (h1 : SymsAt w u1 a) (h2 : SymsAt w u2 b) (h3 : SymsAt w u3 c) :
    SymssAt (w.alloc (.cells #[u1, u2, u3] 23)) (.slice (some ⟨w.heap.size, 0, none⟩) 3 3) [a, b, c] := by
  have hb : Below w.heap.size w (w.alloc (.cells #[u1, u2, u3] 23)) := (Below.refl _ _).alloc (Nat.le_refl _) _
  refine ⟨[u1, u2, u3], rfl, Rd.fresh w #[u1, u2, u3] 23 1 3 rfl (by decide), fun i hi hi' => ?_⟩
  match i, hi, hi' with
  | 0, _, _ => exact h1.below hb
  | 1, _, _ => exact h2.below hb
  | 2, _, _ => exact h3.below hb
def applyGo (l : List Sym) : Nat → List Sym → List Edit → List Sym
  | p, out, [] => out ++ l.drop p
  | p, out, e :: es => applyGo l (e.pos + e.del).toNat (out ++ (l.drop p).take (e.pos.toNat - p) ++ e.ins) es
def applyZ (l : List Sym) (es : List Edit) : List Sym × Int :=
  if isTextB l && validZ l.length es then (if 2048 < (applyGo l 0 [] es).length then ([], 4) else (applyGo l 0 [] es, 0)) else ([], 1)
theorem applyGo_step {l : List Sym} {p : Nat} {out : List Sym} {es : List Edit} {k : Nat} (h : k < es.length) :
    applyGo l p out (es.drop k) = applyGo l (es[k].pos + es[k].del).toNat (out ++ (l.drop p).take (es[k].pos.toNat - p) ++ es[k].ins) (es.drop (k + 1)) := by
  rw [List.drop_eq_getElem_cons h, applyGo]
set_option maxHeartbeats 1000000 in
theorem apply_any (v u : Value) (l : List Sym) (es : List Edit) (w : World) (h : SymsAt w v l) (hE : EditsAt w u es) :
    Calls Try.prog 19 #[v, u] w fun e w' => ∃ x, e = .returned (.tuple #[x, .int .i64 (applyZ l es).2]) ∧ w'.ownsRow w.heap.size 34 2 x (applyZ l es).1.length (symsC (applyZ l es).1) ∧ Below w.heap.size w w' := by
  obtain ⟨a, cap, rfl, h2, h3⟩ := h.form
  obtain ⟨ae, cape, rfl, h2e, h3e⟩ := hE.form
  unfold maxLen at h3 h3e
  have HT := hidep (isText_any _ l w h)
  cases ht : isTextB l with
  | false =>
    have HZ : Hid (applyZ l es = ([], 1)) := hidep (by unfold applyZ; rw [ht]; rfl)
    rw [ht] at HT
    clear ht
    go_enter Try.func19, Try.ntmps19
    go_wp2_with fail
    refine HT.out.mono ?_
    rintro e w1 ⟨rfl, hb1⟩
    go_wp2
    go_ret2
    rw [HZ.out]
    exact ⟨_, rfl, World.ownsRow_nil _ _ _ _, hb1⟩
  | true =>
    have hl : l.length ≤ 2048 := by
      unfold isTextB at ht
      simp at ht
      exact ht.1
    have HV := hidep (fun w1 (hb : Below w.heap.size w w1) => valid_any _ (l.length : Int) es w1 (hE.below hb) (by omega) (by omega))
    rw [ht] at HT
    cases hv : validZ l.length es with
    | false =>
      have HZ : Hid (applyZ l es = ([], 1)) := hidep (by unfold applyZ; rw [ht, hv]; rfl)
      rw [hv] at HV
      clear ht hv
      go_enter Try.func19, Try.ntmps19
      go_wp2_with fail
      refine HT.out.mono ?_
      rintro e w1 ⟨rfl, hb1⟩
      go_wp2_with (go_at_call 38; refine (HV.out _ hb1).mono ?_; rintro e w2 ⟨rfl, hb2⟩)
      go_ret2
      rw [HZ.out]
      exact ⟨_, rfl, World.ownsRow_nil _ _ _ _, hb1.trans (hb2.mono hb1.size)⟩
    | true =>
      have HZ : Hid (applyZ l es = if 2048 < (applyGo l 0 [] es).length then ([], 4) else (applyGo l 0 [] es, 0)) := hidep (by unfold applyZ; rw [ht, hv]; rfl)
      rw [hv] at HV
      have HG : Hid (validGo l.length (-1) es = true) := hidep (by unfold validZ at hv; simp at hv; exact hv.2)
      have hle : es.length ≤ 32 := by unfold validZ at hv; simp at hv; exact hv.1
      clear ht hv
      go_enter Try.func19, Try.ntmps19
      go_wp2_with fail
      refine HT.out.mono ?_
      rintro e w1 ⟨rfl, hb1⟩
      go_wp2_with (go_at_call 38; refine (HV.out _ hb1).mono ?_; rintro e w2 ⟨rfl, hb2⟩)
      have hbw2 := hb1.trans (hb2.mono hb1.size)
      clear hb1 hb2 HT HV
      go_loopg [6, 7, 22] es.length (fun g o p i wr => ∃ (k q : Nat) (last : Int) (out : List Sym), k ≤ es.length ∧ es.length - k = g ∧ i = .int .i64 k ∧ p = .int .i64 q ∧ q ≤ l.length ∧ ((last = -1 ∧ q = 0) ∨ last = (q : Int)) ∧ out.length ≤ q + 64 * k ∧
        Hid (validGo l.length last (es.drop k) = true) ∧ Hid (applyGo l 0 [] es = applyGo l q out (es.drop k)) ∧ wr.ownsRow w.heap.size 34 2 o out.length (symsC out) ∧ Below w.heap.size w wr)
      case atStart => exact ⟨0, 0, -1, [], Nat.zero_le _, rfl, rfl, rfl, Nat.zero_le _, .inl ⟨rfl, rfl⟩, by simp, HG, hidep rfl, World.ownsRow_nil _ _ _ _, hbw2⟩
      case round =>
        obtain ⟨k, q, last, out, hk, hg, rfl, rfl, hq, hlast, ho, HVG, HAG, hown, hbw⟩ := hrel
        have HK := hidep hg
        clear hg hbw2
        by_cases hlt : k < es.length
        · obtain ⟨b, off, u, rfl, hb, hc0, hc1, hc2, hu⟩ := (hE.below hbw).at hlt
          have HA := hidep (HAG.out.trans (applyGo_step hlt))
          have hst := @validGo_step l.length last es k hlt
          have hbad : badE l.length last es[k] = false := by
            cases hbb : badE l.length last es[k] with
            | false => rfl
            | true => have := hst.1 hbb; rw [HVG.out] at this; cases this
          have HV := hidep ((hst.2 hbad).symm.trans HVG.out)
          clear hst
          generalize es[k] = x at *
          obtain ⟨pos, del, ins⟩ := x
          simp only at hc0 hc1 hu HA HV
          have hb1 : last < pos ∧ pos ≤ l.length ∧ 0 ≤ del ∧ del ≤ l.length - pos ∧ ins.length ≤ 64 := by
            unfold badE at hbad
            simp only [Bool.or_eq_false_iff, decide_eq_false_iff_not] at hbad
            omega
          clear hbad
          obtain ⟨hp1, hp2, hp3, hp4, hp5⟩ := hb1
          obtain ⟨p, rfl⟩ : ∃ p : Nat, pos = (p : Int) := ⟨pos.toNat, by omega⟩
          have hqp : q ≤ p := by omega
          obtain ⟨ai, capi, rfl, hu2, hu3⟩ := hu.form
          unfold maxLen at hu3
          go_upto_region 8 with (fail)
          obtain ⟨ao, capo, rfl, ho2, ho3⟩ := (Rd.of_own hown).form
          unfold maxLen at ho3
          go_cut [6] (fun s6 wc => wc.ownsRow w.heap.size 34 2 s6 (out ++ (l.drop q).take (p - q) ++ ins).length (symsC (out ++ (l.drop q).take (p - q) ++ ins)) ∧ Below (wr.heap.size + 1) (wr.alloc (.cells #[.int .i64 p, .int .i64 del, .slice ai ins.length capi] 36)) wc)
          have hI1 : (0 : Int) ≤ (q : Int) := by omega
          have hI2 : (q : Int) ≤ (p : Int) := by omega
          have hI3 : (p : Int) ≤ (cap : Int) := by omega
          have hI4 : (0 : Int) ≤ (p : Int) := by omega
          case first =>
            have hX : Below wr.heap.size wr (wr.alloc (.cells #[.int .i64 p, .int .i64 del, .slice ai ins.length capi] 36)) := (Below.refl _ _).alloc (Nat.le_refl _) _
            have hs1 : SymsAt wr (.slice ao out.length capo) out := SymsAt.of_own hown
            have hs2 := (h.below hbw).part (x := q) (y := p) (m := cap) hqp (by omega) (by omega) (Nat.le_refl _)
            have hlist := SymssAt.lit3 (hs1.below hX) (hs2.below hX) (hu.below hX)
            have hsz : (wr.alloc (.cells #[.int .i64 p, .int .i64 del, .slice ai ins.length capi] 36)).heap.size = wr.heap.size + 1 := by simp
            rw [hsz] at hlist
            have hY := (Below.refl (wr.alloc (.cells #[.int .i64 p, .int .i64 del, .slice ai ins.length capi] 36)).heap.size (wr.alloc (.cells #[.int .i64 p, .int .i64 del, .slice ai ins.length capi] 36))).alloc (Nat.le_refl _) (.cells #[.slice ao out.length capo, .slice (if cap = q then a else a.map (·.add (q * 2))) (p - q) (cap - q), .slice ai ins.length capi] 23)
            rw [hsz] at hY
            have HY := hidep hY.drew
            clear hY
            have HC := hidep ((concat_any _ _ _ (hlist.below (Below.refl _ _).drew) (by unfold total; simp; omega)).mono (R' := fun e w' => ∃ x, e = .returned x ∧ w'.ownsRow w.heap.size 34 2 x (out ++ (l.drop q).take (p - q) ++ ins).length (symsC (out ++ (l.drop q).take (p - q) ++ ins)) ∧ Below (wr.heap.size + 1) (wr.alloc (.cells #[.int .i64 p, .int .i64 del, .slice ai ins.length capi] 36)) w')
              (fun e w' ⟨x, he, ho, hb⟩ => ⟨x, he, own_base (by simpa using ho) (by have := hbw.size; simp; omega), HY.out.trans (hb.mono (by simp))⟩))
            clear hX hs1 hs2 hlist hsz h hE hu HY
            by_cases hcq : cap = q
            · obtain rfl : p = q := by omega
              subst hcq
              simp only [if_true, Nat.sub_self] at HC
              go_region_with (go_at_call 39; refine HC.out.mono ?_; rintro e w3 ⟨x, rfl, hown3, hb3⟩)
              all_goals
                go_wp2
                go_meet
                rename_i x w3 hown3 hb3
                simp only [Nat.sub_self]
                exact ⟨hown3, hb3⟩
            · simp only [if_neg hcq] at HC
              go_region_with (go_at_call 39; refine HC.out.mono ?_; rintro e w3 ⟨x, rfl, hown3, hb3⟩)
              all_goals
                go_wp2
                go_meet
                rename_i x w3 hown3 hb3
                exact ⟨hown3, hb3⟩
          case rest =>
            obtain ⟨hown3, hb3⟩ := hcut
            have hcell0 : wc.cell? ⟨wr.heap.size, 0, none⟩ = some (.int .i64 p) := by
              rw [hb3.cell (p := ⟨wr.heap.size, 0, none⟩) (by simp)]
              rw [World.cell?_alloc_at _ _ _ _ rfl]; rfl
            have hcell1 : wc.cell? ⟨wr.heap.size, 1, none⟩ = some (.int .i64 del) := by
              rw [hb3.cell (p := ⟨wr.heap.size, 1, none⟩) (by simp)]
              rw [World.cell?_alloc_at _ _ _ _ rfl]; rfl
            have hbwc : Below w.heap.size w wc := (hbw.alloc hbw.size _).trans (hb3.mono (by have := hbw.size; omega))
            clear hb3 hown hbw hu hc0 hc1 hc2
            go_wp2
            go_roundg (es.length - (k + 1))
            case measure => have := HK.out; omega
            case rel => 
              obtain ⟨d, hd⟩ : ∃ d : Nat, del = (d : Int) := ⟨del.toNat, by omega⟩
              refine ⟨k + 1, p + d, (p : Int) + del, out ++ (l.drop q).take (p - q) ++ ins, by omega, rfl, by go_num, congrArg _ (by omega), by omega, .inr (by omega), by simp; omega, hidep HV.out, hidep (HA.out.trans ?_), hown3, hbwc⟩
              rw [hd]
              congr 1
        · have hkl : k = es.length := by omega
          subst hkl
          have HA : Hid (applyGo l 0 [] es = out ++ l.drop q) := hidep (by rw [HAG.out, List.drop_length]; rfl)
          have hs2 := (h.below hbw).part (x := q) (y := l.length) (m := cap) hq (Nat.le_refl _) (by omega) (Nat.le_refl _)
          have hone := symsC_one ((l.drop q).take (l.length - q))
          have hlen : ((l.drop q).take (l.length - q)).length = l.length - q := by simp
          have htk : (l.drop q).take (l.length - q) = l.drop q := List.take_of_length_le (by simp)
          rw [htk] at hs2 hone
          have hlen2 : (l.drop q).length = l.length - q := by simp
          have HL := hidep hlen2
          obtain ⟨ao, capo, rfl, ho2, ho3⟩ := (Rd.of_own hown).form
          unfold maxLen at ho3
          have hI1 : (0 : Int) ≤ (q : Int) := by omega
          have hI2 : (q : Int) ≤ (l.length : Int) := by omega
          clear hlen htk hlen2 HAG
          obtain ⟨m, hm⟩ : ∃ m : Nat, m = l.length - q := ⟨_, rfl⟩
          have HM : Hid ((l.drop q).length = m) := hidep (by rw [HL.out, hm])
          have hml : m ≤ 2048 := by omega
          have hHl : Hid ((applyGo l 0 [] es).length = out.length + m) := hidep (by rw [HA.out, List.length_append, HM.out])
          clear hm HL
          have hz : (applyZ l es = ([], 4) ∧ (2048 : Int) < (out.length : Int) + (m : Int)) ∨ (applyZ l es = (out ++ l.drop q, 0) ∧ (out.length : Int) + (m : Int) ≤ 2048) := by
            rw [HZ.out, HA.out]
            have := hHl.out
            rw [HA.out] at this
            by_cases hbig : 2048 < (out ++ l.drop q).length
            · exact .inl ⟨if_pos hbig, by omega⟩
            · exact .inr ⟨if_neg hbig, by omega⟩
          rcases hz with ⟨hz, hbig⟩ | ⟨hz, hbig⟩
          · have HZ := hidep hz
            clear hz
            go_wp2_with (at_builtin; refine wpList_append_rd _ rfl (.tmp 42) (.tmp 45) rfl slSyms w.heap.size (.slice ao out.length capo) _ _ rfl hown _ _ _ _ rfl hs2 hone (by unfold maxLen; rw [HM.out]; omega) (by rw [HM.out]; omega) hbw.size ?_; intro v4 w4 hown4 hgr4 hat hnl; clear hat hnl; rw [HM.out] at hown4; obtain ⟨a4, c4, rfl, _, _⟩ := (Rd.of_own hown4).form)
            all_goals
              go_ret2
              rw [HZ.out]
              exact ⟨_, rfl, World.ownsRow_nil _ _ _ _, hbw.grown hgr4 hbw.size (fun g hg => (hown.lt g hg).1)⟩
          · have HZ := hidep hz
            clear hz
            go_wp2_with (at_builtin; refine wpList_append_rd _ rfl (.tmp 42) (.tmp 45) rfl slSyms w.heap.size (.slice ao out.length capo) _ _ rfl hown _ _ _ _ rfl hs2 hone (by unfold maxLen; rw [HM.out]; omega) (by rw [HM.out]; omega) hbw.size ?_; intro v4 w4 hown4 hgr4 hat hnl; clear hat hnl; rw [HM.out] at hown4; obtain ⟨a4, c4, rfl, _, _⟩ := (Rd.of_own hown4).form)
            all_goals
              go_ret2
              rw [HZ.out]
              refine ⟨_, rfl, ?_, hbw.grown hgr4 hbw.size (fun g hg => (hown.lt g hg).1)⟩
              rw [List.length_append, HM.out, symsC_append]
              exact hown4
end Go.Proofs.Ythdafajhohdkoaa
