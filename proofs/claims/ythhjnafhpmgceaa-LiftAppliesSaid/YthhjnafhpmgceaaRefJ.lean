/- Contract: edits made of numbers (reference): they are valid. -/
import Derived.Test.YthhjnafhpmgceaaRefC
import Derived.Test.YthhjnafhpmgceaaLiftB
import Derived.Test.YthhjnafhpmgceaaOwnD
import Derived.Test.YthhjnafhpmgceaaLiftD
namespace Go.Proofs.Ythhjnafhpmgceaa
open Go.RowKit Go.Lab
theorem stepO_good {out : List Sym} {lang n : Int} (h : out.all goodB = true) (h0 : 0 ≤ lang) (h1 : lang ≤ 1) : (stepO out lang n).all goodB = true := by
  have hl := langN_rng (n := n) h0 h1
  have hc := charN_rng n
  have hg : ∀ c : Int, 32 ≤ c → c ≤ 126 → goodB ⟨langN lang n, c⟩ = true := fun c h2 h3 => by simp [goodB, writtenB, hl, h2, h3]
  have hw : ∀ c ∈ bytesL (wordB n), 32 ≤ c ∧ c ≤ 126 := by
    have hall : ∀ m : Fin 7, ∀ c ∈ bytesL (words7.getD m.val ⟨#[]⟩), 32 ≤ c ∧ c ≤ 126 := by decide
    exact hall ⟨(n % 7).toNat, by omega⟩
  unfold stepO addW
  rw [List.all_eq_true] at h
  split
  all_goals
    rw [List.all_eq_true]
    intro s hs
    simp only [List.mem_append, List.mem_singleton, List.mem_map] at hs
  · rcases hs with (hs | rfl) | ⟨c, hc2, rfl⟩
    · exact h s hs
    · exact hg _ hc.1 hc.2
    · have := hw c (List.mem_of_mem_take hc2)
      exact hg _ this.1 this.2
  · rcases hs with hs | rfl
    · exact h s hs
    · exact hg _ hc.1 hc.2
theorem symsRun_good : ∀ (l : List Int) (out : List Sym) (lang : Int), out.all goodB = true → 0 ≤ lang → lang ≤ 1 → (symsRun l out lang).all goodB = true
  | [], out, _, h, _, _ => h
  | x :: xs, out, lang, h, h0, h1 => by
    rw [symsRun]
    split
    · exact h
    · have := langN_rng (n := aroundZ x 240) h0 h1
      exact symsRun_good xs _ _ (stepO_good h h0 h1) this.1 this.2
theorem symsZ_good (l : List Int) : (symsZ l).all goodB = true := symsRun_good l [] 0 (by simp) (by omega) (by omega)
theorem stepO_grow (out : List Sym) (lang n : Int) : (stepO out lang n).length ≤ out.length + 5 := by
  unfold stepO addW
  have := wordB_size n
  have h2 := bytesL_len (wordB n)
  split
  · simp; omega
  · simp
theorem symsRun_grow : ∀ (l : List Int) (out : List Sym) (lang : Int), (symsRun l out lang).length ≤ out.length + 5 * l.length
  | [], out, _ => by rw [symsRun]; omega
  | x :: xs, out, lang => by
    rw [symsRun]
    split
    · omega
    · have h1 := symsRun_grow xs (stepO out lang (aroundZ x 240)) (langN lang (aroundZ x 240))
      have h2 := stepO_grow out lang (aroundZ x 240)
      rw [List.length_cons]
      omega
theorem symsZ_grow (l : List Int) : (symsZ l).length ≤ 5 * l.length := by
  have := symsRun_grow l [] 0
  simpa [symsZ] using this
theorem IntsAt.drop {w : World} {a : Option Addr} {c : Nat} {l : List Int} (h : IntsAt w (.slice a l.length c) l) {q : Nat} (hq : q ≤ l.length) :
    IntsAt w (.slice (if c = q then a else a.map (·.add q)) (l.length - q) (c - q)) (l.drop q) := by
  refine ⟨?_, fun x hx => h.2 x (List.mem_of_mem_drop hx)⟩
  obtain ⟨_, _, e, h2, _⟩ := h.1.form
  injection e with _ _ e
  subst e
  have := h.1.part (l := q) (hh := l.length) (m := c) hq (Nat.le_refl _) h2 (Nat.le_refl _)
  simp only [Nat.mul_one] at this
  rw [List.length_drop]
  unfold intsC at this ⊢
  rw [← List.map_drop, List.take_of_length_le (by simp)] at this
  exact this
theorem IntsAt.ofOwn {w : World} {base : Nat} {v : Value} {l : List Int} (h : w.ownsRow base 3 1 v l.length (intsC l)) (hr : ∀ x ∈ l, -9223372036854775808 ≤ x ∧ x ≤ 9223372036854775807) : IntsAt w v l :=
  ⟨(Rd.of_own h).mono (fun _ _ => trivial), hr⟩
theorem three_setCell {w : World} {b : Nat} {x y z u : Value} {t : TypeId} (h : w.heap[b]? = some (.cells #[x, y, z] t (0, 0))) : (w.setCell ⟨b, 2, none⟩ u).heap[b]? = some (.cells #[x, y, u] t (0, 0)) := by
  have hlt := lt_of_block h
  have h' : w.heap[b] = .cells #[x, y, z] t (0, 0) := by simpa [Array.getElem?_eq_getElem hlt] using h
  show (w.heap.modify b _)[b]? = _
  rw [Array.getElem?_eq_getElem (by simpa using hlt), Array.getElem_modify_self, h']
  rfl
theorem three_cell {w : World} {b : Nat} {x y z : Value} {t : TypeId} (h : w.heap[b]? = some (.cells #[x, y, z] t (0, 0))) :
    w.cell? ⟨b, 0, none⟩ = some x ∧ w.cell? ⟨b, 1, none⟩ = some y ∧ w.cell? ⟨b, 2, none⟩ = some z := by simp [World.cell?, h]
theorem three_free {w : World} {b o : Nat} {x y z : Value} {t : TypeId} (h : w.heap[b]? = some (.cells #[x, y, z] t (0, 0))) : w.frozen? ⟨b, o, none⟩ = false := by simp [World.frozen?, h]
set_option maxHeartbeats 4000000 in
set_option maxRecDepth 100000 in
theorem made_any (v : Value) (l : List Int) (n : Nat) (w : World) (h : IntsAt w v l) (hn : n ≤ 4096) :
    Calls Try.prog 20 #[.int .i64 n, v] w fun e w' => ∃ u es, e = .returned u ∧ OwnEd w' w.heap.size u es ∧ validZ n es = true ∧ es.length ≤ 3 ∧ (∀ e ∈ es, e.ins.length ≤ 10) ∧ Below w.heap.size w w' := by
  obtain ⟨a, cap, rfl, hc, hm⟩ := h.1.form
  unfold maxLen at hm
  have HAT : Hid (∀ W i most, Below w.heap.size w W → Calls Try.prog 31 #[.slice a l.length cap, .int .i64 i, .int .i64 most] W fun e w' => e = .returned (.int .i64 (atZ l i most)) ∧ W = w') := hidep (fun W i most hW => at_any _ l i most W (h.below hW))
  have HR7 : Hid (∀ i most, 1 ≤ most → 0 ≤ atZ l i most ∧ atZ l i most < most) := hidep (fun i most hm => by
    unfold atZ
    split
    · omega
    · exact aroundZ_rng _ _ hm)
  obtain ⟨many, hmany⟩ : ∃ many : Nat, atZ l 0 4 = (many : Int) := ⟨(atZ l 0 4).toNat, by have := (HR7.out 0 4 (by omega)).1; omega⟩
  have hm3 : many ≤ 3 := by have := (HR7.out 0 4 (by omega)).2; omega
  have HMA := hidep hmany
  clear hmany
  go_enter Try.func20, Try.ntmps20
  go_wp2_with (go_at_call 31; refine (HAT.out _ _ _ (Below.refl _ _)).mono ?_; rintro e w' ⟨rfl, rfl⟩; rw [HMA.out])
  go_loopg [5, 6, 8] many (fun g o p i wr => ∃ (k q : Nat) (out : List Edit), k ≤ many ∧ many - k = g ∧ i = .int .i64 k ∧ p = .int .i64 q ∧ q ≤ n + 1 ∧ Hid (out.length = k) ∧ OwnEd wr w.heap.size o out ∧ Below w.heap.size w wr ∧
    Hid (∀ rest, validGo n ((q : Int) - 1) rest = true → validGo n (-1) (out ++ rest) = true) ∧ Hid (∀ e ∈ out, e.ins.length ≤ 10))
  case atStart => exact ⟨0, 0, [], by omega, by omega, rfl, rfl, by omega, hidep rfl, OwnEd.nil _ _, Below.refl _ _, hidep (fun rest hr => by simpa using hr), hidep (by simp)⟩
  case round =>
    obtain ⟨k, q, out, hk, hg, rfl, rfl, hq, HOL, hown, hbw, HV, HIN⟩ := hrel
    have hol1 : out.length ≤ k := Nat.le_of_eq HOL.out
    have hol2 : k ≤ out.length := Nat.le_of_eq HOL.out.symm
    have HG := hidep hg
    clear hg
    by_cases hlt : k < many
    · obtain ⟨d, hd⟩ : ∃ d : Nat, atZ l (1 + 5 * (k : Int)) 7 = (d : Int) := ⟨(atZ l (1 + 5 * (k : Int)) 7).toNat, by have := (HR7.out (1 + 5 * (k : Int)) 7 (by omega)).1; omega⟩
      obtain ⟨dl, hdl⟩ : ∃ dl : Nat, atZ l (2 + 5 * (k : Int)) 3 = (dl : Int) := ⟨(atZ l (2 + 5 * (k : Int)) 3).toNat, by have := (HR7.out (2 + 5 * (k : Int)) 3 (by omega)).1; omega⟩
      have hd7 : d ≤ 6 := by have := (HR7.out (1 + 5 * (k : Int)) 7 (by omega)).2; omega
      have hdl3 : dl ≤ 2 := by have := (HR7.out (2 + 5 * (k : Int)) 3 (by omega)).2; omega
      have HD := hidep hd
      have HDL := hidep hdl
      clear hd hdl
      go_upto_if 33 with (go_at_call 31; refine (HAT.out _ _ _ hbw).mono ?_; rintro e w' ⟨rfl, rfl⟩; first | rw [HD.out] | rw [HDL.out])
      by_cases hpos : n < q + d
      · have hposI : (n : Int) < (q : Int) + (d : Int) := by omega
        go_wp2
        go_ret
        have := HV.out [] rfl
        exact ⟨_, _, rfl, hown.below ((Below.refl _ _).alloc (Nat.le_refl _) _), by unfold validZ; rw [List.append_nil] at this; rw [this]; simp; omega, by omega, HIN.out, hbw.alloc hbw.size _⟩
      · have hposI : ¬ (n : Int) < (q : Int) + (d : Int) := by omega
        obtain ⟨dm, hdm, hdm2⟩ : ∃ dm : Nat, dm ≤ n - (q + d) ∧ ((dl ≤ n - (q + d) ∧ dm = dl) ∨ (n - (q + d) < dl ∧ dm = n - (q + d))) := by
          by_cases hc : dl ≤ n - (q + d)
          · exact ⟨dl, hc, .inl ⟨hc, rfl⟩⟩
          · exact ⟨n - (q + d), Nat.le_refl _, .inr ⟨by omega, rfl⟩⟩
        have hdm4 : dm ≤ 2 := by omega
        go_upto_region 9 with (fail)
        go_cut [40] (fun s40 wc => s40 = .int .i64 dm ∧ Hid (wc = wr.alloc (.cells #[.int .i64 ((q : Int) + (d : Int)), .int .i64 dm, .slice none 0 0] 53)))
        case first =>
          rcases hdm2 with ⟨h1, rfl⟩ | ⟨h1, h2⟩
          · have hmi : (dm : Int) ≤ (n : Int) - ((q : Int) + (d : Int)) := by omega
            go_wp2
            go_meet
            exact ⟨rfl, hidep rfl⟩
          · have hmi : (n : Int) - ((q : Int) + (d : Int)) < (dl : Int) := by omega
            go_wp2
            go_meet
            have he : (n : Int) - ((q : Int) + (d : Int)) = (dm : Int) := by omega
            rw [he]
            exact ⟨rfl, hidep rfl⟩
        case rest =>
          obtain ⟨rfl, hwc⟩ := hcut
          have hE : wc.heap[wr.heap.size]? = some (.cells #[.int .i64 ((q : Int) + (d : Int)), .int .i64 dm, .slice none 0 0] 53 (0, 0)) := by rw [hwc.out]; exact heap_alloc_new _ _
          have hbc : Below wr.heap.size wr wc := by rw [hwc.out]; exact (Below.refl _ _).alloc (Nat.le_refl _) _
          have hsz : wr.heap.size < wc.heap.size := by rw [hwc.out]; simp
          clear hwc hdm2 hposI
          have hbw2 : Below w.heap.size w wc := hbw.trans (hbc.mono hbw.size)
          obtain ⟨tk, htk⟩ : ∃ tk : Nat, atZ l (3 + 5 * (k : Int)) 3 = (tk : Int) := ⟨(atZ l (3 + 5 * (k : Int)) 3).toNat, by have := (HR7.out (3 + 5 * (k : Int)) 3 (by omega)).1; omega⟩
          have htk3 : tk ≤ 2 := by have := (HR7.out (3 + 5 * (k : Int)) 3 (by omega)).2; omega
          have HTK := hidep htk
          clear htk
          go_upto_region 10 with (fail)
          go_cut [56] (fun s56 wd => ∃ (ae : Option Addr) (ce : Nat) (xs : List Int), Hid (xs.length ≤ 2) ∧ wd.heap[wr.heap.size]? = some (.cells #[.int .i64 ((q : Int) + (d : Int)), .int .i64 dm, .slice ae (symsZ xs).length ce] 53 (0, 0)) ∧
            wd.ownsRow (wr.heap.size + 1) 30 2 (.slice ae (symsZ xs).length ce) (symsZ xs).length (symsC (symsZ xs)) ∧ Below wr.heap.size wr wd)
          case first =>
            have hcE := three_cell hE
            have hfE := three_free (o := 2) hE
            obtain ⟨hc0, hc1, hc2⟩ := hcE
            obtain ⟨q2, hq2⟩ : ∃ q2 : Nat, 3 + 5 * (k : Int) = (q2 : Int) := ⟨3 + 5 * k, by omega⟩
            have hw1 : IntKind.i64.wrap (5 * (k : Int)) = 5 * (k : Int) := IntWalk.i64_in _ (by omega)
            have hw2 : IntKind.i64.wrap (3 + 5 * (k : Int)) = (q2 : Int) := by rw [IntWalk.i64_in _ (by omega), hq2]
            rw [hq2] at HTK
            have HQ2 := hidep hq2
            clear hq2
            have HSY : Hid (∀ W u XS, IntsAt W u XS → Below wc.heap.size wc W → Calls Try.prog 8 #[u] W fun e w' => ∃ a2 k2, e = .returned (.slice a2 (symsZ XS).length k2) ∧ w'.ownsRow (wr.heap.size + 1) 30 2 (.slice a2 (symsZ XS).length k2) (symsZ XS).length (symsC (symsZ XS)) ∧ Below wc.heap.size wc w' ∧
                w'.cell? ⟨wr.heap.size, 2, none⟩ = some (.slice none 0 0) ∧ w'.frozen? ⟨wr.heap.size, 2, none⟩ = false) := hidep (fun W u XS hx hW => (syms_any u XS W hx).mono (fun e w' ⟨u', he, ho, hb⟩ => by
              obtain ⟨a2, k2, rfl, _, _⟩ := (Rd.of_own ho).form
              have hb2 := hW.trans (hb.mono hW.size)
              exact ⟨a2, k2, he, ownR_base ho (Nat.le_trans hsz hW.size), hb2, (hb2.cell (p := ⟨wr.heap.size, 2, none⟩) hsz).trans hc2, (hb2.frozen (p := ⟨wr.heap.size, 2, none⟩) hsz).trans hfE⟩))
            have HTG : Hid (∀ W a' c' (L : List Int), IntsAt W (.slice a' L.length c') L → Below wc.heap.size wc W → Calls Try.prog 32 #[.slice a' L.length c', .int .i64 tk] W fun e w' => ∃ u, e = .returned u ∧ IntsAt w' u (takeZ L tk) ∧ Below wc.heap.size wc w') := hidep (fun W a' c' L hx hW =>
              (take_any _ L tk W hx (by omega) (by omega)).mono (fun e w' ⟨u', he, ho, hb⟩ => ⟨u', he, IntsAt.ofOwn ho (fun x hm => hx.2 x (List.mem_of_mem_take hm)), hW.trans (hb.mono hW.size)⟩))
            by_cases hlo : q2 < l.length
            · have hmi : (q2 : Int) < (l.length : Int) := by omega
              have hq0 : (0 : Int) ≤ (q2 : Int) := by omega
              have hq1 : (q2 : Int) ≤ (l.length : Int) := by omega
              have hq3 : (l.length : Int) ≤ (cap : Int) := by omega
              have hq4 : ¬ cap = q2 := by omega
              have HTA : Hid (∀ W, Below wc.heap.size wc W → Calls Try.prog 32 #[.slice (a.map (·.add q2)) (l.length - q2) (cap - q2), .int .i64 tk] W fun e w' => ∃ u, e = .returned u ∧ IntsAt w' u (takeZ (l.drop q2) tk) ∧ Below wc.heap.size wc w') := hidep (fun W hW => by
                have hd := IntsAt.drop (h.below (hbw2.trans (hW.mono hbw2.size))) (q := q2) (by omega)
                rw [if_neg hq4] at hd
                have := HTG.out W (a.map (·.add q2)) (cap - q2) (l.drop q2) (by rw [List.length_drop]; exact hd) hW
                rw [List.length_drop] at this
                exact this)
              obtain ⟨XS, hXS⟩ : ∃ XS, XS = takeZ (l.drop q2) tk := ⟨_, rfl⟩
              have HX2 : Hid (XS.length ≤ 2) := hidep (by rw [hXS]; unfold takeZ; rw [List.length_take]; omega)
              rw [← hXS] at HTA
              clear hXS HTG
              go_region_held3 (fun w' => True) (first | go_keep | trivial) (first
                | (go_at_call 31; refine (HAT.out _ _ _ (by first | exact hbw2 | exact hbw2.drew | exact hbw2.drew.drew)).mono ?_; rintro e w' ⟨rfl, rfl⟩; rw [HTK.out]; dsimp only)
                | (go_at_call 32; refine (HTA.out _ (by first | exact Below.refl _ _ | exact (Below.refl _ _).drew | exact (Below.refl _ _).drew.drew)).mono ?_; rintro e w1 ⟨u1, rfl, hx1, hb1⟩; dsimp only)
                | (go_at_call 8; refine (HSY.out _ _ XS (by first | exact hx1 | exact hx1.below (Below.refl _ _).drew) (by first | exact hb1 | exact hb1.drew)).mono ?_; rintro e w2 ⟨a2, k2, rfl, hy2, hb2, hc5, hf5⟩; dsimp only)
                | fail)
              all_goals
                go_wp2
                go_meet
                have hE2 := (hb2.block _ hsz).trans hE
                refine ⟨a2, k2, XS, HX2, three_setCell hE2, ownsRow_setCell_other hy2 (fun e => absurd (hy2.lt _ e).1 (Nat.not_succ_le_self _)) _, (hbc.trans (hb2.mono hbc.size)).setCell (Nat.le_refl _) _⟩
            · have hmi : (l.length : Int) ≤ (q2 : Int) := by omega
              have hq0 : (0 : Int) ≤ (l.length : Int) := by omega
              have hq3 : (l.length : Int) ≤ (cap : Int) := by omega
              obtain ⟨XS, hXS⟩ : ∃ XS, XS = takeZ ([] : List Int) tk := ⟨_, rfl⟩
              have HX2 : Hid (XS.length ≤ 2) := hidep (by rw [hXS]; simp [takeZ])
              have HD0 : Hid (∀ W, Below wc.heap.size wc W → IntsAt W (.slice (if cap = l.length then a else a.map (·.add l.length)) 0 (cap - l.length)) []) := hidep (fun W hW => by
                have hd := IntsAt.drop (h.below (hbw2.trans (hW.mono hbw2.size))) (q := l.length) (Nat.le_refl _)
                rw [List.drop_length, Nat.sub_self] at hd
                exact hd)
              by_cases hcl : cap = l.length
              · have HTA : Hid (∀ W, Below wc.heap.size wc W → Calls Try.prog 32 #[.slice a 0 0, .int .i64 tk] W fun e w' => ∃ u, e = .returned u ∧ IntsAt w' u XS ∧ Below wc.heap.size wc w') := hidep (fun W hW => by
                  have hd := HD0.out W hW
                  rw [if_pos hcl, hcl, Nat.sub_self] at hd
                  rw [hXS]
                  exact HTG.out W a 0 [] hd hW)
                clear hXS HTG HD0
                subst hcl
                go_region_held3 (fun w' => True) (first | go_keep | trivial) (first
                  | (go_at_call 31; refine (HAT.out _ _ _ (by first | exact hbw2 | exact hbw2.drew | exact hbw2.drew.drew)).mono ?_; rintro e w' ⟨rfl, rfl⟩; rw [HTK.out]; dsimp only)
                  | (go_at_call 32; refine (HTA.out _ (by first | exact Below.refl _ _ | exact (Below.refl _ _).drew | exact (Below.refl _ _).drew.drew)).mono ?_; rintro e w1 ⟨u1, rfl, hx1, hb1⟩; dsimp only)
                  | (go_at_call 8; refine (HSY.out _ _ XS (by first | exact hx1 | exact hx1.below (Below.refl _ _).drew) (by first | exact hb1 | exact hb1.drew)).mono ?_; rintro e w2 ⟨a2, k2, rfl, hy2, hb2, hc5, hf5⟩; dsimp only)
                  | fail)
                all_goals
                  go_wp2
                  go_meet
                  have hE2 := (hb2.block _ hsz).trans hE
                  refine ⟨a2, k2, XS, HX2, three_setCell hE2, ownsRow_setCell_other hy2 (fun e => absurd (hy2.lt _ e).1 (Nat.not_succ_le_self _)) _, (hbc.trans (hb2.mono hbc.size)).setCell (Nat.le_refl _) _⟩
              · have HTA : Hid (∀ W, Below wc.heap.size wc W → Calls Try.prog 32 #[.slice (a.map (·.add l.length)) 0 (cap - l.length), .int .i64 tk] W fun e w' => ∃ u, e = .returned u ∧ IntsAt w' u XS ∧ Below wc.heap.size wc w') := hidep (fun W hW => by
                  have hd := HD0.out W hW
                  rw [if_neg hcl] at hd
                  rw [hXS]
                  exact HTG.out W _ _ [] hd hW)
                clear hXS HTG HD0
                go_region_held3 (fun w' => True) (first | go_keep | trivial) (first
                  | (go_at_call 31; refine (HAT.out _ _ _ (by first | exact hbw2 | exact hbw2.drew | exact hbw2.drew.drew)).mono ?_; rintro e w' ⟨rfl, rfl⟩; rw [HTK.out]; dsimp only)
                  | (go_at_call 32; refine (HTA.out _ (by first | exact Below.refl _ _ | exact (Below.refl _ _).drew | exact (Below.refl _ _).drew.drew)).mono ?_; rintro e w1 ⟨u1, rfl, hx1, hb1⟩; dsimp only)
                  | (go_at_call 8; refine (HSY.out _ _ XS (by first | exact hx1 | exact hx1.below (Below.refl _ _).drew) (by first | exact hb1 | exact hb1.drew)).mono ?_; rintro e w2 ⟨a2, k2, rfl, hy2, hb2, hc5, hf5⟩; dsimp only)
                  | fail)
                all_goals
                  go_wp2
                  go_meet
                  have hE2 := (hb2.block _ hsz).trans hE
                  refine ⟨a2, k2, XS, HX2, three_setCell hE2, ownsRow_setCell_other hy2 (fun e => absurd (hy2.lt _ e).1 (Nat.not_succ_le_self _)) _, (hbc.trans (hb2.mono hbc.size)).setCell (Nat.le_refl _) _⟩
          case rest =>
            obtain ⟨ae, ce, XS, hx2, hE2, hsy, hbd⟩ := hcut
            have hgood := symsZ_good XS
            have hlen : (symsZ XS).length ≤ 10 := by have := symsZ_grow XS; have := hx2.out; omega
            clear hx2
            have HGO := hidep hgood
            obtain ⟨hce, hce2⟩ : (symsZ XS).length ≤ ce ∧ ce ≤ 2 ^ 63 - 1 := by
             obtain ⟨_, _, e0, h1, h2⟩ := (Rd.of_own hsy).form
             injection e0 with _ _ e0
             subst e0
             exact ⟨h1, h2⟩
            generalize symsZ XS = ins at *
            clear hgood hE hbc hsz hbw2 HAT HTK
            have hc := three_cell hE2
            have hf := three_free (o := 2) hE2
            obtain ⟨hc0, hc1, hc2⟩ := hc
            have hpi : (q : Int) + (d : Int) ≤ n := by omega
            have hsz := lt_of_block hE2
            go_upto_if 64 with (fail)
            go_cut [67] (fun s67 wd => ∃ (ae : Option Addr) (ce : Nat) (ins : List Sym), wd.heap[wr.heap.size]? = some (.cells #[.int .i64 ((q : Int) + (d : Int)), .int .i64 dm, .slice ae ins.length ce] 53 (0, 0)) ∧
              wd.ownsRow (wr.heap.size + 1) 30 2 (.slice ae ins.length ce) ins.length (symsC ins) ∧ Hid (ins.all goodB = true) ∧ ins.length ≤ 10 ∧ Hid ¬ (dm = 0 ∧ ins.length = 0) ∧ Below wr.heap.size wr wd)
            case first =>
              by_cases hz : dm = 0 ∧ ins.length = 0
              · obtain ⟨hz1, hz2⟩ := hz
                have hzi : ((dm : Int) + (ins.length : Int) == 0) = true := by rw [beq_iff_eq]; omega
                go_wp2
                go_meet
                have hss : (wc.setCell ⟨wr.heap.size, 2, none⟩ (.slice (some ⟨wc.heap.size, 0, none⟩) 1 1)).heap.size = wc.heap.size := by simp [World.setCell]
                have hlit := World.ownsRow_lit (wc.setCell ⟨wr.heap.size, 2, none⟩ (.slice (some ⟨wc.heap.size, 0, none⟩) 1 1)) #[.int .i64 0, .int .u8 120] 1 (e := 30) (size := 2) (Nat.le_refl _) (by decide) rfl
                rw [hss] at hlit
                refine ⟨some ⟨wc.heap.size, 0, none⟩, 1, [⟨0, 120⟩], ?_, ownR_base hlit (by omega), hidep (by decide), by simp, hidep (by simp), (hbd.setCell (Nat.le_refl _) _).alloc (by rw [hss]; omega) _⟩
                rw [Below.heap_alloc _ _ _ (by rw [hss]; omega)]
                exact three_setCell hE2
              · have hzi : ((dm : Int) + (ins.length : Int) == 0) = false := by rw [beq_eq_false_iff_ne]; omega
                go_wp2
                go_meet
                exact ⟨ae, ce, ins, hE2, hsy, HGO, hlen, hidep hz, hbd⟩
            case rest =>
              obtain ⟨ae, ce, ins, hE2, hsy, HGO, hlen, hnz, hbd⟩ := hcut
              obtain ⟨hce, hce2⟩ : ins.length ≤ ce ∧ ce ≤ 2 ^ 63 - 1 := by
               obtain ⟨_, _, e0, h1, h2⟩ := (Rd.of_own hsy).form
               injection e0 with _ _ e0
               subst e0
               exact ⟨h1, h2⟩
              have hc := three_cell hE2
              obtain ⟨hc0, hc1, hc2⟩ := hc
              have hsz := lt_of_block hE2
              have hlt := hown.lt
              have hbwd : Below w.heap.size w wc := hbw.trans (hbd.mono hbw.size)
              obtain ⟨ao, co, rfl, hco, hco2⟩ := hown.form
              have hxa : Below wc.heap.size wc (wc.alloc (.cells #[.int .i64 ((q : Int) + (d : Int)), .int .i64 dm, .slice ae ins.length ce] 53)) := (Below.refl _ _).alloc (Nat.le_refl _) _
              obtain ⟨us1, hul1, huo1, hus1, hap1⟩ := hown
              have HLO : Hid (∀ i (h' : i < us1.length) g, us1[i].ownBlock = some g → g < wr.heap.size + 1) := hidep (fun i h' g hg => Nat.lt_succ_of_lt ((hus1 i (by omega) h').lt g hg).2)
              obtain ⟨us2, hul2, huo2, hus2, hap2, hlo2⟩ : ∃ us : List Value, us.length = out.length ∧ (wc.alloc (.cells #[.int .i64 ((q : Int) + (d : Int)), .int .i64 dm, .slice ae ins.length ce] 53)).ownsRow w.heap.size 53 3 (.slice ao out.length co) out.length (editsC out us) ∧ (∀ i (h : i < out.length) (h' : i < us.length), (wc.alloc (.cells #[.int .i64 ((q : Int) + (d : Int)), .int .i64 dm, .slice ae ins.length ce] 53)).ownsRow w.heap.size 30 2 us[i] out[i].ins.length (symsC out[i].ins)) ∧ ApartL us ∧ Hid (∀ i (h' : i < us.length) g, us[i].ownBlock = some g → g < wr.heap.size + 1) :=
                ⟨us1, hul1, ownR_below (ownR_below huo1 hbd) hxa, fun i a b => ownR_below (ownR_below (hus1 i a b) hbd) hxa, hap1, HLO⟩
              clear hul1 huo1 hus1 hap1 HLO
              have hfr := Rd.fresh wc #[.int .i64 ((q : Int) + (d : Int)), .int .i64 dm, .slice ae ins.length ce] 53 3 1 rfl (by decide)
              have hsy2 := ownR_below hsy hxa
              have HEB : Hid (∀ w2 : World, (wc.alloc (.cells #[.int .i64 ((q : Int) + (d : Int)), .int .i64 dm, .slice ae ins.length ce] 53)).grownBy w2 (Value.slice ao out.length co).ownBlock →
                  w2.cell? ⟨wr.heap.size, 0, none⟩ = some (.int .i64 ((q : Int) + (d : Int))) ∧ w2.cell? ⟨wr.heap.size, 1, none⟩ = some (.int .i64 dm)) := hidep (fun w2 hg => by
                have hB := (hg.block wr.heap.size (by simp; omega) (fun e => by have := (hlt _ e.symm).2; omega)).trans ((hxa.block _ hsz).trans hE2)
                have := three_cell hB
                exact ⟨this.1, this.2.1⟩)
              have hbs := hbwd.size
              have hbs1 := hbw.size
              have HLT := hidep hlt
              clear hlt hE2 hsy hbw hbd HR7
              go_wp2_with (first
                | (at_builtin; refine wpList_append_rd _ rfl (.tmp 68) (.tmp 70) rfl slEdits w.heap.size (.slice ao out.length co) _ _ rfl huo2 _ _ _ _ rfl hfr (by intro u hu; simp at hu; rcases hu with rfl | rfl | rfl <;> rfl) (by unfold maxLen; omega) (by omega) (by simp; omega) ?_; intro v2 w2 hown2 hgr2 hat hnl; clear hat hnl; obtain ⟨hd0, hd1⟩ := HEB.out w2 hgr2; have hfin := OwnEd.snoc (e := ⟨(q : Int) + (d : Int), dm, ins⟩) hul2 huo2 hus2 hap2 hlo2.out (by omega) hsy2 hown2 hgr2; have hbf : Below w.heap.size w w2 := (hbwd.trans (hxa.mono hbs)).grown hgr2 (by simp; omega) (fun g hg => (huo2.lt g hg).1); clear hgr2 hown2)
                | fail)
              go_roundg (many - (k + 1))
              case measure => have := HG.out; omega
              case rel =>
                refine ⟨k + 1, q + d + dm + 1, _, by omega, rfl, by go_num, by go_num, by omega, hidep (by simp; omega), hfin, hbf, hidep (fun rest hr => ?_), hidep (fun e he => ?_)⟩
                case refine_2 =>
                  rcases List.mem_append.1 he with he | he
                  · exact HIN.out e he
                  · simp at he
                    subst he
                    exact hlen
                rw [List.append_assoc]
                refine HV.out _ ?_
                show (if badE n ((q : Int) - 1) ⟨(q : Int) + (d : Int), dm, ins⟩ then false else validGo n ((q : Int) + (d : Int) + dm) rest) = true
                rw [badE_false (by omega) (by omega) (by omega) (by omega) (by omega) HGO.out (by have := hnz.out; omega)]
                have e : ((q : Int) + (d : Int) + dm) = (((q + d + dm + 1 : Nat) : Int) - 1) := by omega
                rw [e]
                simpa using hr
    · go_wp2
      go_ret
      have := HV.out [] rfl
      exact ⟨_, _, rfl, hown, by unfold validZ; rw [List.append_nil] at this; rw [this]; simp; omega, by omega, HIN.out, hbw⟩
end Go.Proofs.Ythhjnafhpmgceaa
