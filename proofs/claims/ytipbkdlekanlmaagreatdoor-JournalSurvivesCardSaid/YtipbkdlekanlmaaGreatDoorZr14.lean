/- Journal: the code's Pack. -/
import Derived.Test.YtipbkdlekanlmaaGreatDoorZr13
import Derived.Test.YtipbkdlekanlmaaGreatDoorZr12
namespace Go.Proofs.YtipbkdlekanlmaaGreatDoor
open Go.RowKit Go.Lab Go.Jn Go.Disk
attribute [local go_sem] Oper.semAt_some
set_option maxRecDepth 100000
theorem range_map29 (f : Nat → Value) : (List.range 29).map f = [f 0, f 1, f 2, f 3, f 4, f 5, f 6, f 7, f 8, f 9, f 10, f 11, f 12, f 13, f 14, f 15, f 16, f 17, f 18, f 19, f 20, f 21, f 22, f 23, f 24, f 25, f 26, f 27, f 28] := rfl
theorem frame29 (t : Array Value) (ds : List Deferred) (h : t.size = 29) : ({ tmps := t, defers := ds } : Act) = { tmps := #[slot t 0, slot t 1, slot t 2, slot t 3, slot t 4, slot t 5, slot t 6, slot t 7, slot t 8, slot t 9, slot t 10, slot t 11, slot t 12, slot t 13, slot t 14, slot t 15, slot t 16, slot t 17, slot t 18, slot t 19, slot t 20, slot t 21, slot t 22, slot t 23, slot t 24, slot t 25, slot t 26, slot t 27, slot t 28], defers := ds } := by
  have e : t = ((List.range 29).map (slot t)).toArray := by
    apply Array.ext
    · simp [h]
    · intro i h1 h2
      simp [slot, Array.getD, h1]
  rw [range_map29] at e
  exact congrArg (fun x => ({ tmps := x, defers := ds } : Act)) e
theorem wpListIn_alloc_row {F : Fence} {n : Nat} {P : Program} {t : TypeId} {Z : Array Value} (hz : ∀ w, (zeroValue t).run P w = .ok (.agg Z) w) (w : World) {ops : Array Oper} {rest : List Oper} {o : Oper} {a : Act} {Q : Exit → Act → World → Prop} (hgd : o.guard = none) (ho : o.op = .alloc t)
    (h : wpListIn F n P ops Q rest (a.put o.dst (.pointer (some ⟨w.heap.size, 0, none⟩))) (w.alloc (.cells Z t))) : wpListIn F n P ops Q (o :: rest) a w := by
  refine wpListIn_plain hgd fun K hK => ?_
  unfold Oper.wpIn
  refine ⟨by simp [Oper.about, ho], ?_⟩
  rw [Oper.semAt_plain F _ _ (by rw [ho]; intro c hc'; cases hc')]
  unfold execOp
  simp [ho, Instr.alloc, hz, newVar, newRow, Value.cells, Result.andThen]
  exact hK _ _ h
theorem wpListIn_store_last {F : Fence} {n : Nat} {P : Program} {t : TypeId} {c c' : Array Value} (w : World) (hi : (P.info? t).map (·.size) = some c'.size) (hsz : c.size = c'.size) (h1 : c'.all (·.oneCell') = true) {ops : Array Oper} {rest : List Oper} {o : Oper} {a : Act} {Q : Exit → Act → World → Prop} (hgd : o.guard = none) (x y : Operand) (ho : o.op = .store t x y)
    (hx : a.eval x = .pointer (some ⟨w.heap.size, 0, none⟩)) (hy : a.eval y = .agg c') (h : wpListIn F n P ops Q rest (a.put o.dst undef) (w.alloc (.cells c' t))) : wpListIn F n P ops Q (o :: rest) a (w.alloc (.cells c t)) := by
  refine wpListIn_plain hgd fun K hK => ?_
  unfold Oper.wpIn
  refine ⟨by simp [Oper.about, ho], ?_⟩
  rw [Oper.semAt_plain F _ _ (by rw [ho]; intro c hc'; cases hc')]
  unfold execOp
  simp only [ho, hx, hy, Sem.run_bind, Sem.run_pure, run_storeAt_new w t c c' hi hsz h1, Result.andThen_ok]
  exact hK _ _ h
theorem parts_stops (d : Nat) (hd : 1 ≤ d) (P1 P2 num : Nat) (T : ByteArray) (TT : Nat → Prop) (h1 : ¬ TT P1) (h2 : ¬ TT P2) (h3 : ¬ TT 2) (hnum : num ≤ 4096) (hT : T.size ≤ 8000) (w : World) (hB : PtBox w P1 P2 num T) :
    SeqStopsK Fence.wide d Tryz.prog 90 #[.pointer (some ⟨P1, 0, none⟩), .pointer (some ⟨P2, 0, none⟩)] (fun x : Nat => #[Value.agg (byC (secB num (nums T) x)).toArray]) (Turned TT) (fun ys => ys = List.range (cntZ T.size).toNat) (fun _ => True) (cntZ T.size).toNat w := by
  intro l J Jx W hW hJ _ hY h0
  exact parts1_in d hd l P1 P2 num T TT h1 h2 h3 hnum hT J Jx W.heap.size hJ hY W ⟨below_push hW hB.1, below_push hW hB.2.1, hB.2.2.below hW⟩ (Nat.le_refl _) h0
set_option maxHeartbeats 1000000 in
theorem parts_any (num : Nat) (T : ByteArray) (w : World) (hk : w.rangeAt 2 0 (u32C ks0)) : Calls Tryz.prog 74 #[.int .i64 (num : Nat), .string T] w fun e w' => e = .returned (.func (.func 90) #[] #[.pointer (some ⟨w.heap.size + 1, 0, none⟩), .pointer (some ⟨w.heap.size, 0, none⟩)]) ∧ PtBox w' (w.heap.size + 1) w.heap.size num T ∧ w'.heap.size = w.heap.size + 2 ∧ Below w.heap.size w w' := by
  have hb := ((Below.refl w.heap.size w).alloc (Nat.le_refl _) (.cells #[.int .i64 (num : Nat)] 3)).alloc (by simp) (.cells #[.string T] 9)
  have HB := hidep hb
  have HK := hidep (hk.below hb)
  have HO1 := hidep (allocs_get [.cells #[.int .i64 (num : Nat)] 3, .cells #[.string T] 9] w 0 _ rfl)
  have HO2 := hidep (allocs_get [.cells #[.int .i64 (num : Nat)] 3, .cells #[.string T] 9] w 1 _ rfl)
  clear hb hk
  go_enter Tryz.func74, Tryz.ntmps74
  go_wp2
  go_ret
  exact ⟨by simp, ⟨HO2.out, HO1.out, HK.out⟩, by simp, HB.out⟩
def strL (l : List ByteArray) : List Value := l.map Value.string
theorem strL_one (l : List ByteArray) : ∀ u ∈ strL l, u.oneCell' = true := by
  intro u hu
  obtain ⟨x, _, rfl⟩ := List.mem_map.1 hu
  rfl
theorem slStrR : SlT Tryz.prog 22 9 (.string ByteArray.empty) 1 16 := ⟨by kernel_rfl, by kernel_rfl, rfl, by decide⟩
theorem own_objs {W W' : World} {row : Option Nat} {base k n : Nat} {e : TypeId} {v : Value} {xs : List Value} (h : W.ownsRow base e k v n xs) (hg : W.grownBy W' row) (hr : ∀ r, row = some r → ∃ o : Obj, W.heap[r]? = some o ∧ o.isCells = false) : W'.ownsRow base e k v n xs := by
  refine ⟨h.1, ?_⟩
  rcases h.2 with h2 | ⟨g, cap, cur, rfl, hb, hq, r⟩
  · exact .inl h2
  · refine .inr ⟨g, cap, cur, rfl, hb, (hg.block g (lt_of_block hq) (fun e => ?_)).trans hq, r⟩
    obtain ⟨o, ho, hc⟩ := hr g e.symm
    rw [hq] at ho
    injection ho with ho
    subst ho
    cases hc
theorem own_base {W : World} {B B' k n : Nat} {e : TypeId} {v : Value} {xs : List Value} (h : W.ownsRow B e k v n xs) (hB : B' ≤ B) : W.ownsRow B' e k v n xs := by
  refine ⟨h.1, ?_⟩
  rcases h.2 with h2 | ⟨g, cap, cur, rfl, hb, r⟩
  · exact .inl h2
  · exact .inr ⟨g, cap, cur, rfl, Nat.le_trans hB hb, r⟩
theorem own_cells {W W' : World} {B k n : Nat} {e : TypeId} {v : Value} {xs : List Value} (h : W.ownsRow B e k v n xs) (hc : ∀ (b : Nat) (o : Obj), W.heap[b]? = some o → o.isCells = true → W'.heap[b]? = some o) : W'.ownsRow B e k v n xs := by
  refine ⟨h.1, ?_⟩
  rcases h.2 with h2 | ⟨g, cap, cur, rfl, hb, hq, r⟩
  · exact .inl h2
  · exact .inr ⟨g, cap, cur, rfl, hb, hc _ _ hq rfl, r⟩
theorem conv_sect {W : World} {b : Nat} {L : List Int} {t : TypeId} (h : W.heap[b]? = some (.cells (byC L).toArray t)) (hl : L.length = 64) (hr : ∀ x ∈ L, 0 ≤ x ∧ x < 256) : (convert 81 9 (.slice (some ⟨b, 0, none⟩) 64 64)).run Tryz.prog W = .ok (.string (strOfNums L)) W := by
  have h0 := bytR_of_block (o := 0) (m := 64) (c := 64) h (by omega) (by omega) (by omega) hr
  rw [List.drop_zero, List.take_of_length_le (by omega)] at h0
  exact bytR_str h0 (by omega)
/-- What Pack answers. -/
def packE (num : Int) (T : ByteArray) : Int := if num < 1 ∨ 4096 < num then 1 else if 8000 < T.size then 4 else 0
def packL (num : Int) (T : ByteArray) : List ByteArray := if packE num T = 0 then (packB num.toNat (nums T)).map strOfNums else []
def secS (num : Nat) (T : ByteArray) (k : Nat) : ByteArray := strOfNums (secB num (nums T) k)
/-- The rows so far. -/
def PackI (num : Nat) (T : ByteArray) (Cs : Nat) (w7 : World) (pre : List Nat) (W : World) : Prop := ∃ v, W.heap[Cs]? = some (.cells #[v] 22) ∧ W.ownsRow w7.heap.size 9 1 v pre.length (strL (pre.map (secS num T))) ∧ Turned (fun k => k = Cs ∨ w7.heap.size ≤ k) w7 W
set_option maxHeartbeats 8000000 in
theorem pack_any (num : Int) (T : ByteArray) (w : World) (h1 : -9223372036854775808 ≤ num) (h2 : num ≤ 9223372036854775807) (hk : w.rangeAt 2 0 (u32C ks0)) :
    Calls Tryz.prog 40 #[.int .i64 num, .string T] w fun e w' => ∃ v, e = .returned (.tuple #[v, .int .i64 (packE num T)]) ∧ w'.ownsRow w.heap.size 9 1 v (packL num T).length (strL (packL num T)) ∧ Below w.heap.size w w' := by
  have hnil : w.ownsRow w.heap.size 9 1 (.slice none 0 0) 0 (strL []) := ⟨rfl, .inl ⟨rfl, rfl⟩⟩
  have hfw : Fence.wide.fn 40 := trivial
  refine (callsIn_wide (n := 8)).1 ?_
  refine callsIn_of_wp_marks Tryz.func40 rfl hfw ?_ rfl
  simp only [Tryz.ntmps40, List.size_toArray, List.length_cons, List.length_nil, Nat.reduceAdd, Nat.reduceSub, Array.replicate_succ, Array.replicate_zero, List.push_toArray, List.append_toArray, List.nil_append, List.cons_append]
  refine wpIn_wide.2 ?_
  by_cases hb1 : num < 1
  · have he : packE num T = 1 := by unfold packE; rw [if_pos (.inl hb1)]
    have hl : packL num T = [] := by unfold packL; rw [if_neg (by rw [he]; decide)]
    rw [he, hl]
    clear he hl
    go_wp2
    refine leavesM_marks (lo := w.heap.size) (Marks.nil _ _) (fun w' hc hb => ?_)
    exact ⟨_, results_tmp2 rfl _ _ _, _, rfl, own_below hnil hb, hb⟩
  by_cases hb2 : num > 4096
  · have he : packE num T = 1 := by unfold packE; rw [if_pos (.inr hb2)]
    have hl : packL num T = [] := by unfold packL; rw [if_neg (by rw [he]; decide)]
    rw [he, hl]
    clear he hl
    go_wp2
    refine leavesM_marks (lo := w.heap.size) (Marks.nil _ _) (fun w' hc hb => ?_)
    exact ⟨_, results_tmp2 rfl _ _ _, _, rfl, own_below hnil hb, hb⟩
  by_cases hb3 : T.size > 8000
  · have he : packE num T = 4 := by unfold packE; rw [if_neg (by omega), if_pos hb3]
    have hl : packL num T = [] := by unfold packL; rw [if_neg (by rw [he]; decide)]
    rw [he, hl]
    clear he hl
    go_wp2
    refine leavesM_marks (lo := w.heap.size) (Marks.nil _ _) (fun w' hc hb => ?_)
    exact ⟨_, results_tmp2 rfl _ _ _, _, rfl, own_below hnil hb, hb⟩
  have he : packE num T = 0 := by unfold packE; rw [if_neg (by omega), if_neg (by omega)]
  obtain ⟨n, hn⟩ : ∃ n : Nat, num = (n : Int) := ⟨num.toNat, by omega⟩
  have hl : packL num T = (List.range (cntZ T.size).toNat).map (secS n T) := by
    unfold packL packB
    rw [if_pos he, hn, nums_len, List.map_map]
    rfl
  rw [he, hl]
  subst hn
  have hT8 : T.size ≤ 8000 := by omega
  have hTi : ¬ (T.size : Int) > 8000 := by omega
  obtain ⟨N, hN⟩ : ∃ N, N = (cntZ T.size).toNat := ⟨_, rfl⟩
  have hN167 : N ≤ 167 := by have := cntZ_rng T.size; omega
  rw [← hN]
  have HN := hidep hN
  clear he hl h1 h2 hN
  go_upto_region 6 with (fail)
  refine wp_abs (fun X => X.heap[w.heap.size]? = some (.cells #[.slice none 0 0] 22) ∧ Below w.heap.size w X) ⟨heap_alloc_new _ _, (Below.refl _ _).alloc (Nat.le_refl _) _⟩ ?_
  rintro X ⟨hqc, hbX⟩
  obtain ⟨Cs, hC⟩ : ∃ C, C = w.heap.size := ⟨_, rfl⟩
  rw [← hC] at hqc
  rw [← hC]
  have HC := hidep (And.intro hC (show 2 < Cs from by
    have := World.block_lt_of_cell? w ⟨2, 0 + 0, none⟩ (hk 0 _ rfl)
    rw [hC]
    exact this))
  clear hC
  have hkX := hk.below hbX
  go_wp2_with (first
    | (go_at_call 74; refine (parts_any n T _ hkX).mono ?_; rintro e w7 ⟨rfl, hB7, hs7, hb7⟩)
    | fail)
  have hq7 := below_push hb7 hqc
  have hw7 := hbX.trans (hb7.mono hbX.size)
  have hCX := lt_of_block hqc
  have hbx := hbX.size
  have hgC := HC.out.2
  have hfc : Fence.wide.fn 90 := trivial
  have hst := parts_stops (8 - 1) (by omega) (X.heap.size + 1) X.heap.size n T (fun k => k = Cs ∨ w7.heap.size ≤ k) (by omega) (by omega) (by omega) (by omega) hT8 w7 hB7
  rw [← HN.out] at hst
  refine (wpIn_wide (n := 8)).1 ?_
  refine wpIn_rangeFunc_ownH rfl (by omega) (gf := 90) (lb := _) rfl hfc (enters_of Tryz.func90 (by kernel_rfl) rfl) hst (fun h k => Turned.trans h k) (turned_putObj (n := w7.heap.size) (by intro l hl; exact .inr hl)) (Below.refl _ _) (fun _ => rfl)
    (PackI n T Cs w7)
    (fun _ _ _ => False)
    (fun st A B row hs hg hr => by
      obtain ⟨v, hv1, hv2, hv3⟩ := hs
      exact ⟨v, (hg.block Cs (lt_of_block hv1) (fun e => by have := (hr _ e.symm).1; omega)).trans hv1, own_objs hv2 hg (fun r e => (hr r e).2), hv3.own hg (fun r e => (hr r e).1)⟩)
    (fun cd st A B row hs hg hr => hs)
    ⟨_, hq7, ⟨rfl, .inl ⟨rfl, rfl⟩⟩, Turned.refl _ _⟩
    (fun x a' W => a'.tmps.size = 29 ∧ a'.defers = [] ∧ slot a'.tmps 6 = .pointer (some ⟨Cs, 0, none⟩) ∧ ∃ B7, w7.heap.size ≤ B7 ∧ slot a'.tmps 7 = .pointer (some ⟨B7, 0, none⟩) ∧ W.heap[B7]? = some (.cells (byC (secB n (nums T) x)).toArray 96))
    (fun x a' _ X Y row hs hg hr => by
      obtain ⟨h1, h2, h3, B7, h4, h5, h6⟩ := hs
      refine ⟨h1, h2, h3, B7, h4, h5, (hg.block B7 (lt_of_block h6) (fun e => ?_)).trans h6⟩
      obtain ⟨_, o, ho, hoc⟩ := hr B7 e.symm
      rw [h6] at ho
      injection ho with ho
      subst ho
      cases hoc)
    ?assign ?body ?done ?stop
  case assign =>
    rintro l pre x W K ⟨v, hv1, hv2, hv3⟩ hK
    obtain ⟨SC, hSC⟩ : ∃ SC, SC = (byC (secB n (nums T) x)) := ⟨_, rfl⟩
    have hSCl : SC.length = 64 := by rw [hSC, byC_length, secB_len]
    have hSC1 : ∀ u ∈ SC, u.oneCell' = true := by rw [hSC]; exact byC_one _
    have hTa : Turned (fun k => k = Cs ∨ w7.heap.size ≤ k) W (W.alloc (.cells SC.toArray 96)) := (Turned.refl _ _).alloc _
    have hTf : Turned (fun _ => False) W (W.alloc (.cells SC.toArray 96)) := (Turned.refl _ _).alloc _
    have hbA := (Below.refl W.heap.size W).alloc (Nat.le_refl _) (.cells SC.toArray 96)
    have hIA : PackI n T Cs w7 pre (W.alloc (.cells SC.toArray 96)) := ⟨v, below_push hbA hv1, own_below hv2 hbA, hv3.trans hTa⟩
    refine wpIn_cutA 29 (fun tm ds => ds = [] ∧ slot tm 6 = .pointer (some ⟨Cs, 0, none⟩) ∧ slot tm 22 = .agg SC.toArray) (by kernel_rfl) (by exact ⟨by kernel_rfl, by kernel_rfl, by rw [hSC]; kernel_rfl⟩) ?_
    rintro tA dA h29 ⟨rfl, e6, e22⟩
    rw [frame29 tA [] h29, e6, e22]
    clear h29 e6 e22
    refine wpIn_region_lit ?_
    refine wpListIn_alloc_row (o := ⟨some 7, _, _, _, _, _⟩) zero_sect _ rfl rfl ?_
    refine wpListIn_store_last (o := ⟨none, _, _, _, _, _⟩) (c' := SC.toArray) _ (by rw [List.size_toArray, hSCl]; exact row_sect.2) (by rw [List.size_toArray, List.size_toArray, hSCl, byC_length]; simp) (all_oneCell_toArray hSC1) rfl _ _ rfl rfl rfl ?_
    refine wpListIn_nil ?_
    exact hK _ _ (hTf.from (fun _ _ h => h)) hTa hIA ⟨by rfl, by rfl, by rfl, W.heap.size, hv3.size, by rfl, by rw [← hSC]; exact heap_alloc_new W _⟩
  case body =>
    rintro l pre x ⟨tm7, ds7⟩ W hl ⟨rl, hlr⟩ ⟨v, hv1, hv2, hv3⟩ ⟨h29, hds, h6, B7, hB7g, h7, hq7s⟩ hlen
    dsimp only at h29 hds h6 h7 hq7s
    subst hds
    rw [frame29 tm7 [] h29, h6, h7]
    clear h29 h6 h7
    have hCs : Cs < w7.heap.size := by have := hb7.size; omega
    have hB7C : B7 ≠ Cs := by omega
    have hsr := secB_rng n (nums T) x (nums_rng T)
    have hsl := secB_len n (nums T) x
    obtain ⟨sec, hsec⟩ : ∃ sec, sec = secB n (nums T) x := ⟨_, rfl⟩
    have hsS : secS n T x = strOfNums sec := by rw [hsec]; rfl
    rw [← hsec] at hsr hsl hq7s
    have HSEC := hidep hsS
    clear hsec hsS
    obtain ⟨va, vc, hvv, _, _⟩ := (Rd.of_own hv2).form
    rw [hvv] at hv1 hv2
    have hC0 := hv1
    have hown := hv2
    have c0 := box1_cell hC0
    have HSL := hidep (And.intro hsr hsl)
    clear hsr hsl hvv
    gi_wp2
    refine wpIn_region_round (S := (fun Y => Y.heap[B7]? = some (.cells (byC sec).toArray 96))) (by kernel_rfl) (by kernel_rfl) (by rintro ⟨_, _, h⟩; exact h) ?hS40r8n0 (fun hHeld => ?hR40r8n0)
    case hS40r8n0 => ((try dsimp only); (exact hq7s))
    refine wpAnyH_take (i := 1) (v := ?v40r8n0q1) rfl (by kernel_rfl) (by kernel_rfl) (by kernel_rfl) (fun _ _ _ h => h) (Or.inl ⟨by kernel_rfl, ?hy40r8n0q1⟩) (by assumption) ?hr40r8n0q1
    case hy40r8n0q1 => (intro w hSw; (try dsimp only at hSw); (have hcv := conv_sect hSw HSL.out.2 HSL.out.1); first | (go_simp; done) | (go_simp; with_reducible rfl))
    refine wpAnyH_take (i := 2) (v := ?v40r8n0q2) rfl (by kernel_rfl) (by kernel_rfl) (by kernel_rfl) (fun _ _ _ h => h) (Or.inl ⟨by kernel_rfl, ?hy40r8n0q2⟩) (by assumption) ?hr40r8n0q2
    case hy40r8n0q2 => (intro w hSw; (try dsimp only at hSw); (have hcv := conv_sect hSw HSL.out.2 HSL.out.1); first | (go_simp; done) | (go_simp; with_reducible rfl))
    refine wpAnyH_ready (rs := [0, 3]) (by kernel_rfl) (by simp) (AllReadyH.cons rfl (fun K hK => ?hc40r8n0q3) (AllReadyH.cons rfl (fun K hK => ?hc40r8n0q4) AllReadyH.nil))
    case' hc40r8n0q3 =>
      go_simp
      refine hK.out _ _ ?hs40r8n0q3 (fun hHeld40r8n0q3 => ?ht40r8n0q3)
      case hs40r8n0q3 => ((try dsimp only); (first | exact hHeld | exact hB7A | exact hB73 | exact (Below.heap_setCell _ ⟨Cs, 0, none⟩ _ B7 hB7C).trans hB73))
      clear hHeld hK
      have hHeld := hHeld40r8n0q3
      clear hHeld40r8n0q3
      refine wpAnyH_ready (rs := [3]) (by kernel_rfl) (by simp) (AllReadyH.cons rfl (fun K hK => ?hc40r8n0q5) AllReadyH.nil)
      go_simp
      (have hgW := lt_of_block hC0; (first | refine intro_alloc (fun XA hBX hLA => ?_) | refine intro_alloc_drew (fun XA hBX hLA => ?_)); have hB7A := below_push hBX hHeld; have hC0 := below_push hBX hC0; have hown := own_below hown hBX; have c0 := box1_cell hC0; (try dsimp only))
      refine hK.out _ _ ?hs40r8n0q5 (fun hHeld40r8n0q5 => ?ht40r8n0q5)
      case hs40r8n0q5 => ((try dsimp only); (first | exact hHeld | exact hB7A | exact hB73 | exact (Below.heap_setCell _ ⟨Cs, 0, none⟩ _ B7 hB7C).trans hB73))
      clear hHeld hK
      have hHeld := hHeld40r8n0q5
      clear hHeld40r8n0q5
      refine wpAnyH_ready (rs := [4]) (by kernel_rfl) (by simp) (AllReadyH.cons rfl (fun K hK => ?hc40r8n0q6) AllReadyH.nil)
      (refine step_append_rd _ (by rfl) (.tmp 23) (.tmp 26) (by rfl) slStrR w7.heap.size _ _ _ (by rfl) hown _ _ _ _ (by rfl) (Rd.of_own (own_lit (B := 0) (xs := [.string (strOfNums sec)]) hLA (Nat.zero_le _) (by show 1 ≤ 1000; decide))) (by intro u hu; simp at hu; subst hu; rfl) (by unfold maxLen; simp; omega) (by simp; omega) (by have := hBX.size; have := hv3.size; omega) ?_; intro v3 w3 hown3 hgr3 hat3 hnl3; have hC3 := grown_other hown hgr3 hC0 (by decide); have hB73 := grown_other hown hgr3 hB7A (by decide); obtain ⟨ya, yc, hvy, _, _⟩ := (Rd.of_own hown3).form; subst hvy; have c3 := box1_cell hC3; have f3 := box_frozen hC3 0; (try dsimp only))
      refine hK.out _ _ ?hs40r8n0q6 (fun hHeld40r8n0q6 => ?ht40r8n0q6)
      case hs40r8n0q6 => ((try dsimp only); (first | exact hHeld | exact hB7A | exact hB73 | exact (Below.heap_setCell _ ⟨Cs, 0, none⟩ _ B7 hB7C).trans hB73))
      clear hHeld hK
      have hHeld := hHeld40r8n0q6
      clear hHeld40r8n0q6
      refine wpAnyH_ready (rs := [5]) (by kernel_rfl) (by simp) (AllReadyH.cons rfl (fun K hK => ?hc40r8n0q7) AllReadyH.nil)
      go_simp
      refine hK.out _ _ ?hs40r8n0q7 (fun hHeld40r8n0q7 => ?ht40r8n0q7)
      case hs40r8n0q7 => ((try dsimp only); (first | exact hHeld | exact hB7A | exact hB73 | exact (Below.heap_setCell _ ⟨Cs, 0, none⟩ _ B7 hB7C).trans hB73))
      clear hHeld hK
      have hHeld := hHeld40r8n0q7
      clear hHeld40r8n0q7
      refine wpAnyH_done (by kernel_rfl) ?_ _
      clear hHeld
    case' hc40r8n0q4 =>
      go_simp
      (have hgW := lt_of_block hC0; (first | refine intro_alloc (fun XA hBX hLA => ?_) | refine intro_alloc_drew (fun XA hBX hLA => ?_)); have hB7A := below_push hBX hHeld; have hC0 := below_push hBX hC0; have hown := own_below hown hBX; have c0 := box1_cell hC0; (try dsimp only))
      refine hK.out _ _ ?hs40r8n0q4 (fun hHeld40r8n0q4 => ?ht40r8n0q4)
      case hs40r8n0q4 => ((try dsimp only); (first | exact hHeld | exact hB7A | exact hB73 | exact (Below.heap_setCell _ ⟨Cs, 0, none⟩ _ B7 hB7C).trans hB73))
      clear hHeld hK
      have hHeld := hHeld40r8n0q4
      clear hHeld40r8n0q4
      refine wpAnyH_ready (rs := [0]) (by kernel_rfl) (by simp) (AllReadyH.cons rfl (fun K hK => ?hc40r8n0q8) AllReadyH.nil)
      go_simp
      refine hK.out _ _ ?hs40r8n0q8 (fun hHeld40r8n0q8 => ?ht40r8n0q8)
      case hs40r8n0q8 => ((try dsimp only); (first | exact hHeld | exact hB7A | exact hB73 | exact (Below.heap_setCell _ ⟨Cs, 0, none⟩ _ B7 hB7C).trans hB73))
      clear hHeld hK
      have hHeld := hHeld40r8n0q8
      clear hHeld40r8n0q8
      refine wpAnyH_ready (rs := [4]) (by kernel_rfl) (by simp) (AllReadyH.cons rfl (fun K hK => ?hc40r8n0q9) AllReadyH.nil)
      (refine step_append_rd _ (by rfl) (.tmp 23) (.tmp 26) (by rfl) slStrR w7.heap.size _ _ _ (by rfl) hown _ _ _ _ (by rfl) (Rd.of_own (own_lit (B := 0) (xs := [.string (strOfNums sec)]) hLA (Nat.zero_le _) (by show 1 ≤ 1000; decide))) (by intro u hu; simp at hu; subst hu; rfl) (by unfold maxLen; simp; omega) (by simp; omega) (by have := hBX.size; have := hv3.size; omega) ?_; intro v3 w3 hown3 hgr3 hat3 hnl3; have hC3 := grown_other hown hgr3 hC0 (by decide); have hB73 := grown_other hown hgr3 hB7A (by decide); obtain ⟨ya, yc, hvy, _, _⟩ := (Rd.of_own hown3).form; subst hvy; have c3 := box1_cell hC3; have f3 := box_frozen hC3 0; (try dsimp only))
      refine hK.out _ _ ?hs40r8n0q9 (fun hHeld40r8n0q9 => ?ht40r8n0q9)
      case hs40r8n0q9 => ((try dsimp only); (first | exact hHeld | exact hB7A | exact hB73 | exact (Below.heap_setCell _ ⟨Cs, 0, none⟩ _ B7 hB7C).trans hB73))
      clear hHeld hK
      have hHeld := hHeld40r8n0q9
      clear hHeld40r8n0q9
      refine wpAnyH_ready (rs := [5]) (by kernel_rfl) (by simp) (AllReadyH.cons rfl (fun K hK => ?hc40r8n0q10) AllReadyH.nil)
      go_simp
      refine hK.out _ _ ?hs40r8n0q10 (fun hHeld40r8n0q10 => ?ht40r8n0q10)
      case hs40r8n0q10 => ((try dsimp only); (first | exact hHeld | exact hB7A | exact hB73 | exact (Below.heap_setCell _ ⟨Cs, 0, none⟩ _ B7 hB7C).trans hB73))
      clear hHeld hK
      have hHeld := hHeld40r8n0q10
      clear hHeld40r8n0q10
      refine wpAnyH_done (by kernel_rfl) ?_ _
      clear hHeld
    all_goals
      have hTg : Turned (fun k => k = Cs ∨ (Value.slice va pre.length vc).ownBlock = some k) W w3 := (Turned.of_below hBX).trans ⟨hgr3.os, hgr3.tape, hgr3.output, hgr3.size, fun b hb hn => hgr3.block b hb (fun e => hn (.inr e.symm))⟩
      have hTw := hTg.setCell ⟨Cs, 0, none⟩ (.slice ya (pre.length + 1) yc) (.inr (.inl rfl))
      have hown4 := ownsRow_turned hown3 ((Turned.refl (fun k => k = Cs) w3).setCell ⟨Cs, 0, none⟩ (.slice ya (pre.length + 1) yc) (.inr rfl)) (fun g hg e => by have := (hown3.lt g hg).1; have e : g = Cs := e; omega)
      have hTk : Turned (fun k => k = Cs ∨ w7.heap.size ≤ k) W (w3.setCell ⟨Cs, 0, none⟩ (.slice ya (pre.length + 1) yc)) := hTw.mono (fun k _ e => by
        rcases e with e | e
        · exact .inl e
        · exact .inr (hv2.lt k e).1)
      refine ⟨⟨hTw.size, fun k o hk ho hoc => hTw.cells ho (fun e => ?_)⟩, hTk, ⟨_, heap_set hC3 0 _, ?_, hv3.trans hTk⟩⟩
      · rcases e with e | e
        · omega
        · obtain ⟨cur, hcur⟩ := ownsRow_cells hv2 e
          rw [ho] at hcur
          injection hcur with hcur
          subst hcur
          cases hoc
      · rw [List.length_append, List.map_append, List.map_singleton, HSEC.out]
        unfold strL at hown4 ⊢
        rw [List.map_append]
        exact hown4
  case done =>
    rintro D ys W hD hys ⟨v, hv1, hv2, hv3⟩ hK
    rw [hys, List.length_range] at hv2
    obtain ⟨va, vc, hvv, _, _⟩ := (Rd.of_own hv2).form
    rw [hvv] at hv1 hv2
    have hcc := box1_cell hv1
    have HM := hidep (show Marks w7.heap.size [{ target := .collected D, args := #[] }] W from (Marks.nil w7.heap.size w7).cons (hv3.keepsM (fun k hk e => by
      rcases hk with hk | hk
      · rw [hk, hq7] at e; cases e
      · have := lt_of_block e; omega)) hD hD hK)
    have HWW := hidep (show Below w.heap.size w W from hw7.trans ⟨hv3.os, hv3.tape, hv3.output, hv3.size, fun k hk => hv3.block k (by have := hw7.size; omega) (by have := HC.out.1; have := hw7.size; show ¬ (k = Cs ∨ w7.heap.size ≤ k); omega)⟩)
    have HSZ := hidep hw7.size
    have HOWN := hidep hv2
    clear hv1 hv2 hv3
    (try dsimp only [Exit.inBlock, Exit.then])
    apply_assumption
    go_wp2
    refine leavesM_marks (lo := w7.heap.size) HM.out (fun w' hc hb => ?_)
    refine ⟨_, results_tmp2 rfl _ _ _, _, rfl, ?_, HWW.out.trans (hb.mono HSZ.out)⟩
    rw [List.length_map, List.length_range]
    exact own_base (own_cells HOWN.out hc) HSZ.out
  case stop =>
    rintro D cd pre W hD _ h
    exact h.elim
end Go.Proofs.YtipbkdlekanlmaaGreatDoor
/- Journal: the reference's number and small. -/
namespace Go.Proofs.YtipbkdlekanlmaaGreatDoor
open Go.RowKit Go.Lab Go.Jn Go.Disk
attribute [local go_sem] Oper.semAt_some
set_option maxRecDepth 100000
theorem range_map20 (f : Nat → Value) : (List.range 20).map f = [f 0, f 1, f 2, f 3, f 4, f 5, f 6, f 7, f 8, f 9, f 10, f 11, f 12, f 13, f 14, f 15, f 16, f 17, f 18, f 19] := rfl
theorem frame20 (t : Array Value) (ds : List Deferred) (h : t.size = 20) : ({ tmps := t, defers := ds } : Act) = { tmps := #[slot t 0, slot t 1, slot t 2, slot t 3, slot t 4, slot t 5, slot t 6, slot t 7, slot t 8, slot t 9, slot t 10, slot t 11, slot t 12, slot t 13, slot t 14, slot t 15, slot t 16, slot t 17, slot t 18, slot t 19], defers := ds } := by
  have e : t = ((List.range 20).map (slot t)).toArray := by
    apply Array.ext
    · simp [h]
    · intro i h1 h2
      simp [slot, Array.getD, h1]
  rw [range_map20] at e
  exact congrArg (fun x => ({ tmps := x, defers := ds } : Act)) e
theorem range_map21 (f : Nat → Value) : (List.range 21).map f = [f 0, f 1, f 2, f 3, f 4, f 5, f 6, f 7, f 8, f 9, f 10, f 11, f 12, f 13, f 14, f 15, f 16, f 17, f 18, f 19, f 20] := rfl
theorem frame21 (t : Array Value) (ds : List Deferred) (h : t.size = 21) : ({ tmps := t, defers := ds } : Act) = { tmps := #[slot t 0, slot t 1, slot t 2, slot t 3, slot t 4, slot t 5, slot t 6, slot t 7, slot t 8, slot t 9, slot t 10, slot t 11, slot t 12, slot t 13, slot t 14, slot t 15, slot t 16, slot t 17, slot t 18, slot t 19, slot t 20], defers := ds } := by
  have e : t = ((List.range 21).map (slot t)).toArray := by
    apply Array.ext
    · simp [h]
    · intro i h1 h2
      simp [slot, Array.getD, h1]
  rw [range_map21] at e
  exact congrArg (fun x => ({ tmps := x, defers := ds } : Act)) e
theorem str_at (s : ByteArray) (i : Nat) (h : i < s.size) : (s[i].toNat : Int) = getU (nums s) i := by
  unfold getU
  rw [List.getD_eq_getElem?_getD, nums_get s h]
  rfl
def NumI (s : ByteArray) (w : World) (a i : Value) (wr : World) : Prop := ∃ (j : Nat) (pre : List Nat), j ≤ s.size ∧ i = .int .i64 ((j : Int) - 1) ∧ pre ++ revN j = revN s.size ∧ a = .int .i64 (accN (nums s) 0 pre) ∧ wr = w
set_option maxHeartbeats 2000000 in
theorem numR_any (s : ByteArray) (w : World) (hs : s.size ≤ 4) : Calls Tryz.prog 79 #[.string s] w fun e w' => e = .returned (.int .i64 (getN (nums s))) ∧ w' = w := by
  have hw0 : IntKind.i64.wrap ((s.size : Int) - 1) = (s.size : Int) - 1 := IntWalk.i64_in _ (by omega)
  go_enter Tryz.func79, Tryz.ntmps79
  go_upto_region 3 with (fail)
  refine wp_loop (LoopI 20 (fun tm ds wr => (slot tm 0) = .string s ∧ ds = [] ∧ NumI s w (slot tm 3) (slot tm 4) wr)) (fun a' wr => idxM (a'.tmps.getD 4 undef)) ?mainStart ?mainRound
  case' mainStart => refine LoopI.mk rfl ?_
  case' mainRound => (rintro ⟨t, ds⟩ wr ⟨hts, hrel⟩; dsimp only at hts hrel; rw [frame20 t ds hts])
  case mainStart => exact ⟨rfl, rfl, s.size, [], Nat.le_refl _, rfl, rfl, rfl, rfl⟩
  obtain ⟨h0, hds, j, pre, hj, h4, HP, h3, rfl⟩ := hrel
  subst hds
  rw [h0, h3, h4]
  clear h0 h3 h4 hts hw0
  have HP := hidep HP
  cases j with
  | zero =>
    have hneg : ¬ (0 : Int) ≤ ((0 : Nat) : Int) - 1 := by decide
    have hA : accN (nums s) 0 pre = getN (nums s) := by
      have h1 := HP.out
      rw [show revN 0 = [] from rfl, List.append_nil] at h1
      rw [h1, accN_rev _ _ _ (by rw [nums_len]; omega), List.drop_zero, List.take_of_length_le (by rw [nums_len]; omega)]
    rw [hA]
    clear hA
    go_wp2
    go_ret
    exact ⟨rfl, rfl⟩
  | succ i =>
    have hsub : ((i + 1 : Nat) : Int) - 1 = (i : Int) := by omega
    rw [hsub]
    have HG := hidep (HP.out.symm.trans (congrArg (pre ++ ·) (revN_succ i)))
    have hlen : pre.length < s.size := by
      have := congrArg List.length HG.out
      simp [revN] at this
      omega
    have hacc := accN_rng (nums_rng s) 0 pre
    have hx := getU_rng (nums_rng s) i
    have hp4 : (256 : Int) ^ pre.length ≤ 256 ^ 3 := by
      have h3 : pre.length = 0 ∨ pre.length = 1 ∨ pre.length = 2 ∨ pre.length = 3 := by omega
      rcases h3 with h | h | h | h <;> rw [h] <;> decide
    have hsn := accN_snoc (nums s) 0 pre i
    rw [Nat.zero_add] at hsn
    obtain ⟨A, hA⟩ : ∃ A, A = accN (nums s) 0 pre := ⟨_, rfl⟩
    have his : i < s.size := by omega
    have hisi : (i : Int) < (s.size : Int) := by omega
    have hpos : (0 : Int) ≤ (i : Int) := by omega
    have hat := str_at s i his
    obtain ⟨y, hy⟩ : ∃ y, y = getU (nums s) i := ⟨_, rfl⟩
    rw [← hA] at hacc hsn
    rw [← hy] at hx hsn hat
    rw [← hA]
    have HSN := hidep hsn
    have hwi : IntKind.i64.wrap ((i : Int) - 1) = (i : Int) - 1 := IntWalk.i64_in _ (by omega)
    have hwA : IntKind.i64.wrap (256 * A) = 256 * A := IntWalk.i64_in _ (by omega)
    have hwy : IntKind.i64.wrap y = y := IntWalk.i64_in _ (by omega)
    have hws : IntKind.i64.wrap (256 * A + y) = 256 * A + y := IntWalk.i64_in _ (by omega)
    clear hA hy hsn hp4 HP
    go_wp2
    refine ⟨LoopI.mk rfl ⟨rfl, rfl, i, pre ++ [i], by omega, rfl, by rw [HG.out]; simp, by rw [HSN.out]; rfl, rfl⟩, ?_⟩
    show idxM _ < idxM _
    simp [idxM]
def SmallI (n m : Nat) (w : World) (v a i : Value) (wr : World) : Prop := ∃ j : Nat, j ≤ m ∧ i = .int .i64 (j : Nat) ∧ v = .int .i64 ((n / 256 ^ j : Nat) : Int) ∧ wr.ownsRow w.heap.size 5 1 a j (byC (leN n j)) ∧ Below w.heap.size w wr
set_option maxHeartbeats 2000000 in
theorem small_any (n m : Nat) (w : World) (hn : n < 2 ^ 62) (hm : m ≤ 4) : Calls Tryz.prog 81 #[.int .i64 (n : Nat), .int .i64 (m : Nat)] w fun e w' => ∃ v, e = .returned v ∧ w'.ownsRow w.heap.size 5 1 v m (byC (leN n m)) ∧ Below w.heap.size w w' := by
  have hnil : w.ownsRow w.heap.size 5 1 (.slice none 0 0) 0 (byC (leN n 0)) := ⟨rfl, .inl ⟨rfl, rfl⟩⟩
  go_enter Tryz.func81, Tryz.ntmps81
  go_upto_region 3 with (fail)
  refine wp_loop (LoopI 21 (fun tm ds wr => (slot tm 1) = .int .i64 (m : Nat) ∧ ds = [] ∧ SmallI n m w (slot tm 0) (slot tm 5) (slot tm 6) wr)) (fun a' wr => m - natI (a'.tmps.getD 6 undef)) ?mainStart ?mainRound
  case' mainStart => refine LoopI.mk rfl ?_
  case' mainRound => (rintro ⟨t, ds⟩ wr ⟨hts, hrel⟩; dsimp only at hts hrel; rw [frame21 t ds hts])
  case mainStart => exact ⟨rfl, rfl, 0, Nat.zero_le _, rfl, by rw [Nat.pow_zero, Nat.div_one]; rfl, hnil, Below.refl _ _⟩
  clear hnil
  obtain ⟨h1, hds, j, hj, h6, h0, hown, hbw⟩ := hrel
  subst hds
  obtain ⟨za, zc, hv, _, _⟩ := (Rd.of_own hown).form
  rw [hv] at hown
  rw [h0, h1, h6, hv]
  clear h0 h1 h6 hv hts
  have hsw := hbw.size
  by_cases hjm : j < m
  · have hji : (j : Int) < (m : Int) := by omega
    obtain ⟨x, hx⟩ : ∃ x, x = n / 256 ^ j := ⟨_, rfl⟩
    have hxn : x < 2 ^ 62 := by rw [hx]; exact Nat.lt_of_le_of_lt (Nat.div_le_self ..) hn
    have hx2 : n / 256 ^ (j + 1) = x / 256 := by rw [hx, Nat.pow_succ, Nat.div_div_eq_div_mul]
    have e4 : byC (leN n j) ++ [Value.int .u8 ((x % 256 : Nat) : Int)] = byC (leN n (j + 1)) := by rw [leN_snoc, ← hx, byC_snoc]
    have hm1 : Int.tmod (x : Int) 256 = ((x % 256 : Nat) : Int) := by rw [Int.tmod_eq_emod_of_nonneg (by omega)]; omega
    have hd1 : Int.tdiv (x : Int) 256 = ((x / 256 : Nat) : Int) := by rw [Int.tdiv_eq_ediv_of_nonneg (by omega)]; omega
    rw [← hx]
    have HX := hidep (And.intro hx2 e4)
    have hdz : ¬ ((256 : Int) = 0) := by decide
    have hownA := fun o => own_below hown (Below.alloc (Below.refl wr.heap.size wr) (Nat.le_refl _) o)
    clear hx hx2 e4
    go_wp2_with (first
      | (at_builtin; refine wpList_append_rd _ rfl (.tmp 12) (.tmp 16) rfl slByteR w.heap.size _ _ _ rfl (hownA _) _ _ _ _ rfl (Rd.fresh wr _ 5 1 1 rfl (by decide)) (by intro u hu; simp at hu; subst hu; rfl) (by unfold maxLen; omega) (by omega) (by simp; omega) ?_; intro v3 w3 hown3 hgr3 hat3 hnl3; clear hat3 hnl3; have hb3 : Below w.heap.size w w3 := (hbw.alloc hsw _).grown hgr3 (by simp; omega) (fun g hg => ((hownA (.cells #[] 0)).lt g hg).1))
      | fail)
    have hcast : ((x % 256 : Nat) : Int) = (x : Int) % 256 := by omega
    refine ⟨LoopI.mk rfl ⟨rfl, rfl, j + 1, by omega, by show Value.int _ _ = _; go_num, by show Value.int _ _ = Value.int _ _; rw [HX.out.1]; congr 1, by rw [← HX.out.2, hcast]; exact hown3, hb3⟩, ?_⟩
    show m - _ < m - _
    simp [natI]; omega
  · have hji : ¬ (j : Int) < (m : Int) := by omega
    have hjm2 : j = m := by omega
    rw [hjm2] at hown
    go_wp2
    go_ret
    exact ⟨_, rfl, hown, hbw⟩
end Go.Proofs.YtipbkdlekanlmaaGreatDoor
/- Journal: the reference's Checked. -/
namespace Go.Proofs.YtipbkdlekanlmaaGreatDoor
open Go.RowKit Go.Lab Go.Jn Go.Disk
attribute [local go_sem] Oper.semAt_some
set_option maxRecDepth 100000
theorem range_map11 (f : Nat → Value) : (List.range 11).map f = [f 0, f 1, f 2, f 3, f 4, f 5, f 6, f 7, f 8, f 9, f 10] := rfl
theorem frame11 (t : Array Value) (ds : List Deferred) (h : t.size = 11) : ({ tmps := t, defers := ds } : Act) = { tmps := #[slot t 0, slot t 1, slot t 2, slot t 3, slot t 4, slot t 5, slot t 6, slot t 7, slot t 8, slot t 9, slot t 10], defers := ds } := by
  have e : t = ((List.range 11).map (slot t)).toArray := by
    apply Array.ext
    · simp [h]
    · intro i h1 h2
      simp [slot, Array.getD, h1]
  rw [range_map11] at e
  exact congrArg (fun x => ({ tmps := x, defers := ds } : Act)) e
theorem str_append (a b : List Int) : strOfNums (a ++ b) = strOfNums a ++ strOfNums b := by
  have : (strOfNums (a ++ b)).data = (strOfNums a ++ strOfNums b).data := by
    simp [strOfNums]
  exact ByteArray.ext this
set_option maxHeartbeats 4000000 in
theorem checkedR_any (v : Value) (L : List Int) (w0 : World) (hl : BytR w0 v L) (h56 : L.length = 56) (hk : w0.rangeAt 0 0 (u32C ks0)) :
    Calls Tryz.prog 80 #[v] w0 fun e w' => e = .returned (.string (strOfNums (sealB L))) ∧ Below w0.heap.size w0 w' := by
  have HSM := hidep (fun W (hW : Below w0.heap.size w0 W) => sumR_any v L W (hl.below hW) h56 (hk.below hW))
  obtain ⟨O, hO⟩ : ∃ O, O = sha56 L := ⟨_, rfl⟩
  have hO32 : (byC O).length = 32 := by rw [hO, byC_length, sha56_len]
  have hOr : ∀ x ∈ O, 0 ≤ x ∧ x < 256 := by rw [hO]; exact sha_rng L
  rw [← hO] at HSM
  have hadd := fun W => run_string_add_sum (P := Tryz.prog) (w := W) (strOfNums L) (strOfNums (O.take 8)) (by rw [strOfNums_size, strOfNums_size, h56, List.length_take]; omega)
  rw [← str_append, hO, show L ++ (sha56 L).take 8 = sealB L from rfl, ← hO] at hadd
  have hI := hidep (show (Tryz.prog.info? 125).map (·.size) = some (byC O).toArray.size from by rw [List.size_toArray, hO32]; exact row_u8x32.2)
  have hSZ := hidep (show (byC (List.replicate 32 0)).toArray.size = (byC O).toArray.size from by rw [List.size_toArray, List.size_toArray, hO32, byC_length]; simp)
  have hONE := hidep (all_oneCell_toArray (byC_one O))
  have HV := hidep (fun W (hW : Below w0.heap.size w0 W) => bytR_str (hl.below hW) (by omega))
  obtain ⟨T1, hT1⟩ : ∃ T1, T1 = strOfNums L := ⟨_, rfl⟩
  obtain ⟨T2, hT2⟩ : ∃ T2, T2 = strOfNums (O.take 8) := ⟨_, rfl⟩
  obtain ⟨T3, hT3⟩ : ∃ T3, T3 = strOfNums (sealB L) := ⟨_, rfl⟩
  rw [← hT1] at HV
  rw [← hT1, ← hT2, ← hT3] at hadd
  rw [← hT3]
  have HO := hidep (And.intro hO32 (And.intro hOr hT2))
  clear hl h56 hk hO32 hOr hO hT1 hT2 hT3
  go_enter Tryz.func80, Tryz.ntmps80
  go_upto_region 2 with (first
    | (go_at_call 96; refine (HSM.out _ (Below.refl _ _)).mono ?_; rintro e w1 ⟨rfl, hb1⟩)
    | (refine wpList_alloc_row (o := ⟨some 3, _, _, _, _, _⟩) zero_u8x32 _ rfl rfl ?_)
    | (refine wpList_store_last (o := ⟨none, _, _, _, _, _⟩) _ hI.out hSZ.out hONE.out rfl _ _ rfl rfl rfl ?_)
    | fail)
  refine wp_abs (fun X => X.heap[w1.heap.size]? = some (.cells (byC O).toArray 125) ∧ Below w0.heap.size w0 X) ⟨heap_alloc_new _ _, hb1.alloc hb1.size _⟩ ?_
  obtain ⟨E, hE⟩ : ∃ E, E = w1.heap.size := ⟨_, rfl⟩
  rw [← hE]
  clear hE hb1 HSM hI hSZ hONE
  rintro X ⟨hqE, hbX⟩
  have HC := hidep (show ∀ W, Below X.heap.size X W → (convert 81 9 v).run Tryz.prog W = .ok (.string T1) W ∧ (convert 81 9 (.slice (some ⟨E, 0, none⟩) 8 32)).run Tryz.prog W = .ok (.string T2) W from fun W hW => ⟨HV.out W (hbX.trans (hW.mono hbX.size)), by
    have hq := below_push hW hqE
    have hl := HO.out.1
    rw [byC_length] at hl
    have h0 := bytR_of_block (o := 0) (m := 8) (c := 32) hq (by omega) (by omega) (by omega) HO.out.2.1
    rw [List.drop_zero] at h0
    rw [HO.out.2.2]
    exact bytR_str h0 (by rw [List.length_take]; omega)⟩)
  refine wp_region_noPanic (wp_region_held_drew (S := (fun Y => Below X.heap.size X Y)) (by kernel_rfl) ?hS80r2n0 (fun hHeld => ?hR80r2n0))
  case hS80r2n0 => ((try dsimp only); (exact (Below.refl _ _).drew))
  refine wpAnyH_take (i := 0) (v := ?v80r2n0q1) rfl (by kernel_rfl) (by kernel_rfl) (by kernel_rfl) (fun _ _ _ h => h) (Or.inl ⟨by kernel_rfl, ?hy80r2n0q1⟩) (by assumption) ?hr80r2n0q1
  case hy80r2n0q1 => (intro w hSw; (try dsimp only at hSw); (obtain ⟨hc1, hc2⟩ := HC.out w hSw); first | (go_simp; done) | (go_simp; with_reducible rfl))
  refine wpAnyH_take (i := 1) (v := ?v80r2n0q2) rfl (by kernel_rfl) (by kernel_rfl) (by kernel_rfl) (fun _ _ _ h => h) (Or.inl ⟨by kernel_rfl, ?hy80r2n0q2⟩) (by assumption) ?hr80r2n0q2
  case hy80r2n0q2 => (intro w hSw; (try dsimp only at hSw); (obtain ⟨hc1, hc2⟩ := HC.out w hSw); first | (go_simp; done) | (go_simp; with_reducible rfl))
  refine wpAnyH_take (i := 2) (v := ?v80r2n0q3) rfl (by kernel_rfl) (by kernel_rfl) (by kernel_rfl) (fun _ _ _ h => h) (Or.inl ⟨by kernel_rfl, ?hy80r2n0q3⟩) (by assumption) ?hr80r2n0q3
  case hy80r2n0q3 => (intro w hSw; (try dsimp only at hSw); (obtain ⟨hc1, hc2⟩ := HC.out w hSw); first | (go_simp; done) | (go_simp; with_reducible rfl))
  refine wpAnyH_take (i := 3) (v := ?v80r2n0q4) rfl (by kernel_rfl) (by kernel_rfl) (by kernel_rfl) (fun _ _ _ h => h) (Or.inl ⟨by kernel_rfl, ?hy80r2n0q4⟩) (by assumption) ?hr80r2n0q4
  case hy80r2n0q4 => (intro w hSw; (try dsimp only at hSw); (obtain ⟨hc1, hc2⟩ := HC.out w hSw); first | (go_simp; done) | (go_simp; with_reducible rfl))
  refine wpAnyH_take (i := 4) (v := ?v80r2n0q5) rfl (by kernel_rfl) (by kernel_rfl) (by kernel_rfl) (fun _ _ _ h => h) (Or.inl ⟨by kernel_rfl, ?hy80r2n0q5⟩) (by assumption) ?hr80r2n0q5
  case hy80r2n0q5 => (intro w hSw; (try dsimp only at hSw); (obtain ⟨hc1, hc2⟩ := HC.out w hSw); first | (go_simp; done) | (go_simp; with_reducible rfl))
  refine wpAnyH_take (i := 5) (v := ?v80r2n0q6) rfl (by kernel_rfl) (by kernel_rfl) (by kernel_rfl) (fun _ _ _ h => h) (Or.inl ⟨by kernel_rfl, ?hy80r2n0q6⟩) (by assumption) ?hr80r2n0q6
  case hy80r2n0q6 => (intro w hSw; (try dsimp only at hSw); (obtain ⟨hc1, hc2⟩ := HC.out w hSw); first | (go_simp; done) | (go_simp; with_reducible rfl))
  refine wpAnyH_done (by kernel_rfl) ?_ _
  clear hHeld
  refine NoPanic.normal ?_
  apply_assumption
  go_wp2
  go_ret
  exact ⟨rfl, hbX.drew⟩
end Go.Proofs.YtipbkdlekanlmaaGreatDoor
