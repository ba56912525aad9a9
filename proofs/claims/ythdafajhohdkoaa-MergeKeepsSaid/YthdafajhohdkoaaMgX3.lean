/- For all lists of ints and a bool the law MergeKeeps returns true, and leaves its arguments as they were: no condition. -/
import Derived.Test.YthdafajhohdkoaaMgX2
import Derived.Test.YthdafajhohdkoaaMgZ
namespace Go.Proofs.Ythdafajhohdkoaa
open Go.RowKit Go.Lab
theorem kept_to (v va vb : Value) (base : List Sym) (a b : List Edit) (w : World) (h : SymsAt w v base) (ha : EditsAt w va a) (hb : EditsAt w vb b) {o : List (Nat × Nat)} {er : Int} (ho : (mergeZ base a b).2.1 = o) (her : (mergeZ base a b).2.2 = er) :
    Calls Try.prog 17 #[v, va, vb] w fun e w' => ∃ a c, e = .returned (.tuple #[.slice a o.length c, .int .i64 er]) ∧ PairsAt w' (.slice a o.length c) o ∧ Below w.heap.size w w' := by
  subst ho her
  exact (kept_any v va vb base a b w h ha hb).mono (fun _ _ ⟨vo, he, ho, hb⟩ => by
    have h1 : PairsAt _ vo (mergeZ base a b).2.1 := Rd.of_own ho
    obtain ⟨x, c, rfl, _, _⟩ := h1.form
    exact ⟨x, c, he, h1, hb⟩)
theorem insLen_take {l : List Edit} {j : Nat} (h : j < l.length) : insLen (l.take (j + 1)) = insLen (l.take j) + l[j].ins.length := by
  rw [List.take_succ_eq_append_getElem h, insLen_app]
  simp [insLen]
theorem delLen_take {l : List Edit} {j : Nat} (h : j < l.length) : delLen (l.take (j + 1)) = delLen (l.take j) + l[j].del.toNat := by
  rw [List.take_succ_eq_append_getElem h, delLen_app]
  simp [delLen]
theorem filter_take {l : List Edit} {q : Edit → Bool} {j : Nat} (h : j < l.length) : (l.take (j + 1)).filter q = (l.take j).filter q ++ (if q l[j] = true then [l[j]] else []) := by
  rw [List.take_succ_eq_append_getElem h, List.filter_append]
  cases hq : q l[j] <;> simp [hq]
theorem box2_cell {w : World} {B : Nat} {t : TypeId} {x y : Value} {f : Nat × Nat} (h : w.heap[B]? = some (.cells #[x, y] t f)) : w.cell? ⟨B, 0, none⟩ = some x ∧ w.cell? ⟨B, 1, none⟩ = some y := by
  constructor <;> simp [World.cell?, h]
theorem box2_set {w : World} {B : Nat} {t : TypeId} {x y : Value} (h : w.heap[B]? = some (.cells #[x, y] t (0, 0))) (n : Nat) (u v : Value) : (((w.drewN n).setCell ⟨B, 0, none⟩ u).setCell ⟨B, 1, none⟩ v).heap[B]? = some (.cells #[u, v] t (0, 0)) := by
  simp [World.setCell, Array.getElem?_modify, h]
set_option maxHeartbeats 4000000 in
set_option maxRecDepth 100000 in
theorem lawKeeps_any (v0 v1 v2 : Value) (l m k : List Int) (odd : Bool) (w : World) (h0 : IntsAt w v0 l) (h1 : IntsAt w v1 m) (h2 : IntsAt w v2 k) :
    Calls Try.prog 5 #[v0, v1, v2, .bool odd] w fun e w' => e = .returned (.bool true) ∧ Below w.heap.size w w' := by
  have ht := symsZ_text l
  have hlen := symsZ_len l
  have H0 := hidep (syms_txt v0 l w h0)
  generalize symsZ l = base at *
  go_enter Try.func5, Try.ntmps5
  go_upto_region 2 with (go_at_call 9; refine H0.out.mono ?_; rintro e w1 ⟨ab, cb, rfl, hS, hb1⟩)
  go_upto_region 3 with (go_at_call 10; refine (some_txt v1 m _ _ _ (h1.below hb1) (by omega)).mono ?_; rintro e w2 ⟨va, a, rfl, hA, hva, sa, hb2⟩)
  have hB2 := hb1.trans (hb2.mono hb1.size)
  go_upto_region 4 with (go_at_call 10; refine (some_txt v2 k _ _ _ (h2.below hB2) (by omega)).mono ?_; rintro e w3 ⟨vb, b, rfl, hBb, hvb, sb, hb3⟩)
  have hB3 := hB2.trans (hb3.mono hB2.size)
  replace hS := (hS.below hb2).below hb3
  replace hA := hA.below hb3
  obtain ⟨aa, ca, rfl, _, _⟩ := hA.form
  obtain ⟨ba, cba, rfl, _, _⟩ := hBb.form
  by_cases hc : clashP a b = []
  · have hm := keeps_law ht (by omega) hva hvb sa sb hc
    obtain ⟨q1, q2⟩ := hm
    obtain ⟨out, ho1⟩ : ∃ o, (mergeZ base a b).1 = o := ⟨_, rfl⟩
    obtain ⟨kp, hkp⟩ : ∃ o, (mergeZ base a b).2.1 = o := ⟨_, rfl⟩
    rw [ho1, hkp] at q2
    have HM1 := hidep (fun X (hX : Below w3.heap.size w3 X) => merge_to _ _ _ base a b X (hS.below hX) (hA.below hX) (hBb.below hX) ho1 q1)
    have HK := hidep (fun X (hX : Below w3.heap.size w3 X) => kept_to _ _ _ base a b X (hS.below hX) (hA.below hX) (hBb.below hX) hkp q1)
    have HQ := hidep q2
    have HBL := hidep (show b.length ≤ 4 from sb.len)
    have HKL := hidep (show kp.length ≤ 24 by have := q2.k; omega)
    clear q1 q2 ho1 hkp h0 h1 h2 H0 ht hc
    go_upto_region 5 with (go_at_call 16; refine (HM1.out _ (Below.refl _ _)).mono ?_; rintro e w4 ⟨vx, rfl, hx, hb4⟩)
    go_upto_region 6 with (go_at_call 17; refine (HK.out _ hb4).mono ?_; rintro e w5 ⟨ak, ck, rfl, hk, hb5⟩)
    have hc5 := hb4.trans (hb5.mono hb4.size)
    obtain ⟨ax, cx, rfl, hx1, hx2⟩ := (hx.below hb5).form
    have hx := hx.below hb5
    have hS5 := hS.below hc5
    go_upto_region 7 with (fail)
    have hn6 := heap_alloc_new w5 (.cells #[.int .i64 (-1), .int .i64 (-1)] 45)
    have hb6 : Below w5.heap.size w5 (w5.alloc (.cells #[.int .i64 (-1), .int .i64 (-1)] 45)) := (Below.refl _ _).alloc (Nat.le_refl _) _
    go_loopw [17] (fun i wr => ∃ (j : Nat) (x y : Int), j ≤ kp.length ∧ i = .int .i64 j ∧ Hid (∀ p ∈ kp.drop j, x < (p.1 : Nat) ∧ y < (p.2 : Nat)) ∧ Below w5.heap.size w5 wr ∧ wr.heap[w5.heap.size]? = some (.cells #[.int .i64 x, .int .i64 y] 45 (0, 0))) (fun i _ => kp.length - (intOf i).toNat)
    case atStart => exact ⟨0, -1, -1, Nat.zero_le _, rfl, hidep (fun p _ => by omega), hb6, hn6⟩
    case round =>
      obtain ⟨j, x, y, hj, rfl, HG, hbr, hcr⟩ := hrel
      by_cases hlt : j < kp.length
      · obtain ⟨kb, ko, rfl, hkb, hc1, hc2⟩ := (hk.below hbr).at hlt
        have hp0 := HG.out kp[j] (by rw [List.drop_eq_getElem_cons hlt]; exact List.mem_cons_self ..)
        obtain ⟨s, e1, e2⟩ := HQ.out.eq kp[j] (List.getElem_mem hlt)
        have HN : Hid (∀ p ∈ kp.drop (j + 1), ((kp[j].1 : Nat) : Int) < (p.1 : Nat) ∧ ((kp[j].2 : Nat) : Int) < (p.2 : Nat)) := hidep (fun p hp => by
          have h1 := (HQ.out.inc.sublist (List.drop_sublist j kp))
          rw [List.drop_eq_getElem_cons hlt, List.pairwise_cons] at h1
          have := h1.1 p hp
          omega)
        generalize kp[j] = p at *
        obtain ⟨p1, p2⟩ := p
        simp only at hc1 hc2 hp0 e1 e2 HN
        obtain ⟨hp1, e1⟩ := List.getElem?_eq_some_iff.1 e1
        obtain ⟨hp2, e2⟩ := List.getElem?_eq_some_iff.1 e2
        obtain ⟨s1, s2⟩ := s
        obtain ⟨hl1, hl2⟩ := hp0
        have hI : 0 ≤ (j : Int) := by omega
        have hI1 : (j : Int) < (kp.length : Int) := by omega
        have hkl := HKL.out
        have HJ := hidep (show j + 1 ≤ kp.length by omega)
        clear HG
        go_upto_region 13 with (fail)
        have hz1 := heap_alloc_new wr (.cells #[.int .i64 (p1 : Nat), .int .i64 (p2 : Nat)] 45)
        have hz2 := (Below.heap_alloc wr (.cells #[.int .i64 (p1 : Nat), .int .i64 (p2 : Nat)] 45) _ (lt_of_block hcr)).trans hcr
        have hbX : Below w5.heap.size w5 (wr.alloc (.cells #[.int .i64 (p1 : Nat), .int .i64 (p2 : Nat)] 45)) := hbr.alloc hbr.size _
        have hne : w5.heap.size < wr.heap.size := lt_of_block hcr
        generalize hXX : wr.alloc (.cells #[.int .i64 (p1 : Nat), .int .i64 (p2 : Nat)] 45) = X at *
        generalize wr.heap.size = Z at *
        clear hXX hc1 hc2 hbr hcr hkb
        obtain ⟨hy0, hy1⟩ := box2_cell hz2
        obtain ⟨hw0, hw1⟩ := box2_cell hz1
        obtain ⟨bb, bo, rfl, hbb, hd1, hd2⟩ := (hS5.below hbX).at hp1
        obtain ⟨xb, xo, rfl, hxb, hd3, hd4⟩ := (hx.below hbX).at hp2
        rw [e1] at hd1 hd2
        rw [e2] at hd3 hd4
        clear e1 e2
        simp only at hd1 hd2 hd3 hd4
        have hg1 : ((p1 : Nat) : Int) < (base.length : Int) := by omega
        have hg2 : ((p2 : Nat) : Int) < (out.length : Int) := by omega
        have hE := run_neq_sym s1 s2 s1 s2
        have hG := run_guard_sym
        have hP1 : 0 ≤ (p1 : Int) := by omega
        have hP2 : 0 ≤ (p2 : Int) := by omega
        have hf0 : X.frozen? ⟨w5.heap.size, 0, none⟩ = false := by simp [World.frozen?, hz2]
        have hf1 : X.frozen? ⟨w5.heap.size, 1, none⟩ = false := by simp [World.frozen?, hz2]
        have HS := hidep (fun n => box2_set hz2 n (.int .i64 (p1 : Nat)) (.int .i64 (p2 : Nat)))
        have HBX := hidep (fun n => show Below w5.heap.size w5 (((X.drewN n).setCell ⟨w5.heap.size, 0, none⟩ (.int .i64 (p1 : Nat))).setCell ⟨w5.heap.size, 1, none⟩ (.int .i64 (p2 : Nat))) from ((below_drewN hbX n).setCell (by simp) _).setCell (by simp) _)
        clear hz1 hz2 hbX hne
        go_quiet (fail)
        go_wp2
        go_roundw
        case rel => exact ⟨j + 1, p1, p2, HJ.out, by have := HJ.out; have := HKL.out; go_num, hidep HN.out, HBX.out _, HS.out _⟩
        case measure => have := HJ.out; have := HKL.out; simp [intOf]; omega
      · have hjk : j = kp.length := by omega
        subst hjk
        have hA5 := (hA.below hc5).below hbr
        have hB5 := (hBb.below hc5).below hbr
        have hB6 := hB3.trans ((hc5.trans (hbr.mono hc5.size)).mono hB3.size)
        obtain ⟨w6, hw6⟩ : ∃ w6 : World, w6 = wr := ⟨_, rfl⟩
        subst hw6
        clear HM1 HK HG hcr hn6 hb6 hbr hk hx hS5 hA hBb hS
        go_upto_region 29 with (fail)
        go_loopw [19, 20, 21] (fun mo le i wq => ∃ j n d : Nat, j ≤ a.length ∧ n ≤ 24 * j ∧ d ≤ 24 * j ∧ mo = .int .i64 n ∧ le = .int .i64 d ∧ i = .int .i64 j ∧ Hid (n = insLen (a.take j)) ∧ Hid (d = delLen (a.take j)) ∧ Below w6.heap.size w6 wq) (fun _ _ i _ => a.length - (intOf i).toNat)
        case atStart => exact ⟨0, 0, 0, Nat.zero_le _, Nat.zero_le _, Nat.zero_le _, rfl, rfl, rfl, hidep rfl, hidep rfl, Below.refl _ _⟩
        case round =>
          obtain ⟨j, n, d, hj, hn, hd, rfl, rfl, rfl, HN, HD, hbq⟩ := hrel
          have ha4 := sa.len
          by_cases hlt : j < a.length
          · obtain ⟨bx, ox, u, rfl, hbx, hc0, hc1, hc2, hu⟩ := (hA5.below hbq).at hlt
            have hi1 := sa.ins a[j] (List.getElem_mem hlt)
            obtain ⟨hi2, hi3, hi4⟩ := validZ_inN hva a[j] (List.getElem_mem hlt)
            have HN1 := hidep (insLen_take hlt)
            have HD1 := hidep (delLen_take hlt)
            generalize a[j] = e at *
            obtain ⟨p, dl, ins⟩ := e
            simp only at hc0 hc1 hu hi1 hi2 hi3 hi4 HN1 HD1
            obtain ⟨au, cu, rfl, _, _⟩ := hu.form
            obtain ⟨dn, rfl⟩ : ∃ dn : Nat, dl = (dn : Int) := ⟨dl.toNat, by omega⟩
            have hI : 0 ≤ (j : Int) := by omega
            have hI1 : (j : Int) < (a.length : Int) := by omega
            clear hu hA5 hB5
            go_wp2
            go_roundw
            case rel => exact ⟨j + 1, n + ins.length, d + dn, by omega, by omega, by omega, by go_num, by go_num, by go_num, hidep (by rw [HN1.out, HN.out]), hidep (by rw [HD1.out, HD.out]; simp), hbq⟩
            case measure => simp [intOf]; omega
          · have hja : j = a.length := by omega
            subst hja
            have HN1 := hidep (show n = insLen a by rw [HN.out, List.take_length])
            have HD1 := hidep (show d = delLen a by rw [HD.out, List.take_length])
            have hA6 := hA5.below hbq
            have hB6' := hB5.below hbq
            clear HN HD hA5 hB5
            obtain ⟨w7, hw7⟩ : ∃ w7 : World, w7 = wr := ⟨_, rfl⟩
            subst hw7
            go_upto_region 29 with (fail)
            go_loopw [19, 20, 22] (fun mo le i wv => ∃ j n' d' : Nat, j ≤ b.length ∧ n' ≤ 96 + 24 * j ∧ d' ≤ 96 + 24 * j ∧ mo = .int .i64 n' ∧ le = .int .i64 d' ∧ i = .int .i64 j ∧ Hid (n' = insLen a + insLen ((b.take j).filter fun x => !memB a x)) ∧ Hid (d' = delLen a + delLen ((b.take j).filter fun x => !memB a x)) ∧ Below w7.heap.size w7 wv) (fun _ _ i _ => b.length - (intOf i).toNat)
            case atStart => exact ⟨0, n, d, Nat.zero_le _, by omega, by omega, rfl, rfl, rfl, hidep (by rw [HN1.out]; rfl), hidep (by rw [HD1.out]; rfl), Below.refl _ _⟩
            case round =>
              obtain ⟨j, n', d', hj, hn', hd', rfl, rfl, rfl, HN2, HD2, hbv⟩ := hrel
              have hb4 := sb.len
              have hbl := HBL.out
              by_cases hlt : j < b.length
              · obtain ⟨bx, ox, u, rfl, hbx, hc0, hc1, hc2, hu⟩ := (hB6'.below hbv).at hlt
                have hA7 := hA6.below hbv
                have hi1 := sb.ins b[j] (List.getElem_mem hlt)
                obtain ⟨hi2, hi3, hi4⟩ := validZ_inN hvb b[j] (List.getElem_mem hlt)
                have HF := hidep (filter_take (q := fun x => !memB a x) hlt)
                generalize b[j] = e at *
                obtain ⟨p, dl, ins⟩ := e
                simp only at hc0 hc1 hu hi1 hi2 hi3 hi4
                have HH := hidep (fun X (hX : Below wr.heap.size wr X) => has_any _ _ a ⟨p, dl, ins⟩ X (hA7.below hX) (hu.below hX))
                simp only [editV] at HH
                obtain ⟨au, cu, rfl, _, _⟩ := hu.form
                obtain ⟨dn, rfl⟩ : ∃ dn : Nat, dl = (dn : Int) := ⟨dl.toNat, by omega⟩
                have hI : 0 ≤ (j : Int) := by omega
                have hI1 : (j : Int) < (b.length : Int) := by omega
                have HCC := hidep (fun X (hX : Below wr.heap.size wr X) => And.intro ((hX.cell (p := ⟨bx, ox + j * 3 + 1, none⟩) hbx).trans hc1) ((hX.cell (p := ⟨bx, ox + j * 3 + 2, none⟩) hbx).trans hc2))
                clear hu hA6 hB6' hA7
                cases hm : memB a ⟨p, (dn : Int), ins⟩
                · rw [hm] at HH HF
                  go_wp2_with (go_at_call 18; refine (HH.out _ (Below.refl _ _)).mono ?_; rintro e wz ⟨rfl, hbz⟩; obtain ⟨hz1, hz2⟩ := HCC.out _ hbz)
                  go_roundw
                  case rel => exact ⟨j + 1, n' + ins.length, d' + dn, by omega, by omega, by omega, by go_num, by go_num, by go_num, hidep (by rw [HF.out, HN2.out, insLen_app]; simp [insLen]; omega), hidep (by rw [HF.out, HD2.out, delLen_app]; simp [delLen]; omega), hbv.trans (hbz.mono hbv.size)⟩
                  case measure => simp [intOf]; omega
                · rw [hm] at HH HF
                  go_wp2_with (go_at_call 18; refine (HH.out _ (Below.refl _ _)).mono ?_; rintro e wz ⟨rfl, hbz⟩)
                  go_roundw
                  case rel => exact ⟨j + 1, n', d', by omega, by omega, by omega, rfl, rfl, by go_num, hidep (by rw [HF.out, HN2.out]; simp), hidep (by rw [HF.out, HD2.out]; simp), hbv.trans (hbz.mono hbv.size)⟩
                  case measure => simp [intOf]; omega
              · have hjb : j = b.length := by omega
                subst hjb
                have hq1 : (out.length : Int) = (kp.length : Int) + (n' : Int) := by
                  have := HQ.out.out
                  have h5 := HN2.out
                  rw [List.take_length] at h5
                  omega
                have hq2 : (base.length : Int) = (kp.length : Int) + (d' : Int) := by
                  have := HQ.out.k
                  have h5 := HD2.out
                  rw [List.take_length] at h5
                  omega
                have hkl := HKL.out
                clear HQ HN2 HD2 HN1 HD1 hA6 hB6'
                go_wp2_with (first
                  | (go_at_call 13; refine (lives_any _).mono ?_; rintro e wy ⟨rfl, hby⟩)
                  | fail)
                go_ret
                have r1 := hbv.trans (hby.mono hbv.size)
                have r2 := hbq.trans (r1.mono hbq.size)
                exact ⟨rfl, hB6.trans (r2.mono hB6.size)⟩
  · have hmz := merge_clash ht hva hvb hc
    have HM1 := hidep (fun X (hX : Below w3.heap.size w3 X) => merge_to _ _ _ base a b X (hS.below hX) (hA.below hX) (hBb.below hX) (o := []) (er := 18) (by rw [hmz]) (by rw [hmz]))
    have HK := hidep (fun X (hX : Below w3.heap.size w3 X) => kept_to _ _ _ base a b X (hS.below hX) (hA.below hX) (hBb.below hX) (o := []) (er := 18) (by rw [hmz]) (by rw [hmz]))
    clear hmz hva hvb sa sb hA hBb hS h0 h1 h2 H0 ht hc
    go_upto_region 5 with (go_at_call 16; refine (HM1.out _ (Below.refl _ _)).mono ?_; rintro e w4 ⟨vx, rfl, hx, hb4⟩)
    go_upto_region 6 with (go_at_call 17; refine (HK.out _ hb4).mono ?_; rintro e w5 ⟨ak, ck, rfl, hk, hb5⟩)
    go_wp2_with (first
      | (go_at_call 13; refine (lives_any _).mono ?_; rintro e w10 ⟨rfl, hb10⟩)
      | fail)
    go_ret
    have r8 := hb4.trans (hb5.mono hb4.size)
    have r10 := r8.trans (hb10.mono r8.size)
    exact ⟨rfl, hB3.trans (r10.mono hB3.size)⟩
end Go.Proofs.Ythdafajhohdkoaa
