/- Contracts: the code's places: the indices of the places of some facts. -/
import Derived.Test.YtfljgcpfmhhgcaaRdSc
import Derived.Test.YtfljgcpfmhhgcaaRdCk
import Derived.Test.YtfljgcpfmhhgcaaRdJ
namespace Go.Proofs.Ytfljgcpfmhhgcaa
open Go.RowKit Go.Lab
attribute [local go_sem] Oper.semAt_some
set_option maxRecDepth 100000
theorem range_map19 (f : Nat → Value) : (List.range 19).map f = [f 0, f 1, f 2, f 3, f 4, f 5, f 6, f 7, f 8, f 9, f 10, f 11, f 12, f 13, f 14, f 15, f 16, f 17, f 18] := rfl
theorem frame19 (t : Array Value) (ds : List Deferred) (h : t.size = 19) : ({ tmps := t, defers := ds } : Act) = { tmps := #[slot t 0, slot t 1, slot t 2, slot t 3, slot t 4, slot t 5, slot t 6, slot t 7, slot t 8, slot t 9, slot t 10, slot t 11, slot t 12, slot t 13, slot t 14, slot t 15, slot t 16, slot t 17, slot t 18], defers := ds } := by
  have e : t = ((List.range 19).map (slot t)).toArray := by
    apply Array.ext
    · simp [h]
    · intro i h1 h2
      simp [slot, Array.getD, h1]
  rw [range_map19] at e
  exact congrArg (fun x => ({ tmps := x, defers := ds } : Act)) e
theorem range_map39 (f : Nat → Value) : (List.range 39).map f = [f 0, f 1, f 2, f 3, f 4, f 5, f 6, f 7, f 8, f 9, f 10, f 11, f 12, f 13, f 14, f 15, f 16, f 17, f 18, f 19, f 20, f 21, f 22, f 23, f 24, f 25, f 26, f 27, f 28, f 29, f 30, f 31, f 32, f 33, f 34, f 35, f 36, f 37, f 38] := rfl
theorem frame39 (t : Array Value) (ds : List Deferred) (h : t.size = 39) : ({ tmps := t, defers := ds } : Act) = { tmps := #[slot t 0, slot t 1, slot t 2, slot t 3, slot t 4, slot t 5, slot t 6, slot t 7, slot t 8, slot t 9, slot t 10, slot t 11, slot t 12, slot t 13, slot t 14, slot t 15, slot t 16, slot t 17, slot t 18, slot t 19, slot t 20, slot t 21, slot t 22, slot t 23, slot t 24, slot t 25, slot t 26, slot t 27, slot t 28, slot t 29, slot t 30, slot t 31, slot t 32, slot t 33, slot t 34, slot t 35, slot t 36, slot t 37, slot t 38], defers := ds } := by
  have e : t = ((List.range 39).map (slot t)).toArray := by
    apply Array.ext
    · simp [h]
    · intro i h1 h2
      simp [slot, Array.getD, h1]
  rw [range_map39] at e
  exact congrArg (fun x => ({ tmps := x, defers := ds } : Act)) e
def isP (item f : Int) (p : Pl) : Bool := decide (p.item = item) && decide (p.fact = f)
set_option maxHeartbeats 1000000 in
theorem pl1_any (gi gf : Nat) (item f a0 a1 a2 a3 a4 a5 : Int) (w : World) (hi : w.cell? ⟨gi, 0, none⟩ = some (.int .i64 item)) (hf : w.cell? ⟨gf, 0, none⟩ = some (.int .i64 f)) (hgi : gi < w.heap.size) (hgf : gf < w.heap.size) :
    Calls Try.prog 79 #[.agg #[.int .i64 a0, .int .i64 a1, .int .i64 a2, .int .i64 a3, .int .i64 a4, .int .i64 a5], .pointer (some ⟨gi, 0, none⟩), .pointer (some ⟨gf, 0, none⟩)] w fun e w' => e = .returned (.bool (isP item f ⟨a0, a1, a2, a3, a4, a5⟩)) ∧ Below w.heap.size w w' := by
  have hE : Below w.heap.size w (w.alloc (.cells #[.int .i64 a0, .int .i64 a1, .int .i64 a2, .int .i64 a3, .int .i64 a4, .int .i64 a5] 26)) := (Below.refl _ _).alloc (Nat.le_refl _) _
  have h1 := (hE.cell (p := ⟨gi, 0, none⟩) hgi).trans hi
  have h2 := (hE.cell (p := ⟨gf, 0, none⟩) hgf).trans hf
  have HE := hidep hE
  clear hE hi hf
  go_enter Try.func79, Try.ntmps79
  by_cases h0 : a0 = item
  · subst h0
    have e0 : (a0 == a0) = true := by simp
    by_cases h3 : a1 = f
    · subst h3
      have e1 : (a1 == a1) = true := by simp
      go_wp2
      go_ret
      exact ⟨ret_val (congrArg Value.bool (by simp [isP])), HE.out⟩
    · have e1 : (a1 == f) = false := beq_false_of_ne h3
      have HR := hidep (show isP a0 f ⟨a0, a1, a2, a3, a4, a5⟩ = false by simp [isP, h3])
      clear h3
      go_wp2
      go_ret
      exact ⟨ret_val (congrArg Value.bool HR.out.symm), HE.out⟩
  · have e0 : (a0 == item) = false := beq_false_of_ne h0
    have HR := hidep (show isP item f ⟨a0, a1, a2, a3, a4, a5⟩ = false by simp [isP, h0])
    clear h0
    go_wp2
    go_ret
    exact ⟨ret_val (congrArg Value.bool HR.out.symm), HE.out⟩
def IdxI (w : World) (p : Pl → Bool) (L : List Pl) (s8 : Value) (wr : World) : Prop := ∃ k : Nat, k ≤ L.length ∧ s8 = .int .i64 (k : Nat) ∧ (∀ x ∈ L.take k, p x = false) ∧ Below w.heap.size w wr
set_option maxHeartbeats 4000000 in
theorem idxP_any (gi gf : Nat) (item f : Int) (v : Value) (L : List Pl) (w : World) (hv : PlacesAt w v L) (hi : w.cell? ⟨gi, 0, none⟩ = some (.int .i64 item)) (hf : w.cell? ⟨gf, 0, none⟩ = some (.int .i64 f)) (hgi : gi < w.heap.size) (hgf : gf < w.heap.size) :
    Calls Try.prog 78 #[v, .func (.func 79) #[] #[.pointer (some ⟨gi, 0, none⟩), .pointer (some ⟨gf, 0, none⟩)]] w fun e w' => (∃ k : Int, e = .returned (.int .i64 k) ∧ IdxR (isP item f) L k) ∧ Below w.heap.size w w' := by
  obtain ⟨a, c, rfl, hc, hm⟩ := PlacesAt.form hv
  unfold maxLen at hm
  have HV := hidep hv
  have HF := hidep (fun a0 a1 a2 a3 a4 a5 X (hX : Below w.heap.size w X) => pl1_any gi gf item f a0 a1 a2 a3 a4 a5 X ((hX.cell (p := ⟨gi, 0, none⟩) hgi).trans hi) ((hX.cell (p := ⟨gf, 0, none⟩) hgf).trans hf) (Nat.lt_of_lt_of_le hgi hX.size) (Nat.lt_of_lt_of_le hgf hX.size))
  clear hi hf hv hgi hgf
  go_enter Try.func78, Try.ntmps78
  go_upto_region 2 with (fail)
  refine wp_loop (LoopI 19 (fun tm ds wr => (slot tm 0) = .slice a L.length c ∧ (slot tm 1) = .func (.func 79) #[] #[.pointer (some ⟨gi, 0, none⟩), .pointer (some ⟨gf, 0, none⟩)] ∧ (slot tm 7) = .int .i64 (L.length : Nat) ∧ ds = [] ∧ IdxI w (isP item f) L (slot tm 8) wr)) (fun a' wr => L.length - (intOf (a'.tmps.getD 8 undef)).toNat) ?idxStart ?idxRound
  case' idxStart => refine LoopI.mk rfl ?_
  case' idxRound => (rintro ⟨t, ds⟩ wr ⟨hts, hrel⟩; dsimp only at hts hrel; rw [frame19 t ds hts])
  case idxStart => exact ⟨rfl, rfl, rfl, rfl, 0, Nat.zero_le _, rfl, (by simp), Below.refl _ _⟩
  obtain ⟨h0, h1, h7, hds, k, hk, h8, hall, hbw⟩ := hrel
  subst hds
  rw [h0, h1, h7, h8]
  clear h0 h1 h7 h8 hts
  by_cases hlt : k < L.length
  · obtain ⟨pb, po, rfl, hpb, p0, p1, p2, p3, p4, p5⟩ := PlacesAt.at (HV.out.below hbw) hlt
    have HS := hidep (IdxR.step hlt hall)
    have hk0 : (0 : Int) ≤ (k : Int) := by omega
    have hk1 : (k : Int) < (L.length : Int) := by omega
    have HBW := hidep hbw
    clear hall
    generalize L[k] = x at *
    obtain ⟨a0, a1, a2, a3, a4, a5⟩ := x
    simp only at p0 p1 p2 p3 p4 p5
    have HFX := HF.out a0 a1 a2 a3 a4 a5 wr hbw
    cases hp : isP item f ⟨a0, a1, a2, a3, a4, a5⟩
    · have HR := hidep (HS.out.2 hp)
      rw [hp] at HFX
      clear HS hp HF hbw
      go_wp2_with fail
      refine HFX.mono ?_
      rintro e w1 ⟨rfl, hb1⟩
      have hend := HBW.out.trans (hb1.mono HBW.out.size)
      clear hb1
      go_wp2
      refine ⟨LoopI.mk rfl ⟨rfl, rfl, rfl, rfl, k + 1, by omega, by show Value.int _ _ = _; go_num, HR.out, hend⟩, ?_⟩
      show L.length - _ < L.length - _
      simp [intOf]; omega
    · have HR := hidep (HS.out.1 hp)
      rw [hp] at HFX
      clear HS hp HF hbw
      go_wp2_with fail
      refine HFX.mono ?_
      rintro e w1 ⟨rfl, hb1⟩
      have hend := HBW.out.trans (hb1.mono HBW.out.size)
      clear hb1
      go_wp2
      go_ret
      exact ⟨⟨_, rfl, HR.out⟩, hend⟩
  · have hkl : k = L.length := by omega
    subst hkl
    rw [List.take_length] at hall
    have HALL := hidep hall
    clear hall
    go_wp2
    go_ret
    exact ⟨⟨_, rfl, .inl ⟨rfl, HALL.out⟩⟩, hbw⟩
/-- What the code's places hands back: the list and the error. -/
def FoundL (L : List Pl) (item : Int) (facts ks : List Int) : Prop := ks.length ≤ facts.length ∧ ∀ (i : Nat) (h' : i < ks.length) (h : i < facts.length), (0 ≤ ks[i] ∧ ks[i] < L.length) ∧ IdxR (isP item facts[i]) L ks[i]
def PlacesR (L : List Pl) (item : Int) (facts o : List Int) (ez : Int) : Prop :=
  (8 < facts.length ∧ ez = 4 ∧ o = []) ∨ (facts.length ≤ 8 ∧ ez = 11 ∧ o = [] ∧ ∃ f ∈ facts, ∀ x ∈ L, isP item f x = false) ∨
    (facts.length ≤ 8 ∧ ez = 0 ∧ ∃ ks : List Int, ks.length = facts.length ∧ FoundL L item facts ks ∧ o = sortZ ks)
theorem FoundL.snoc {L : List Pl} {item : Int} {facts ks : List Int} {k : Nat} (h : FoundL L item facts ks) (hk : ks.length < facts.length) (hr : IdxR (isP item facts[ks.length]) L (k : Int)) (hl : k < L.length) : FoundL L item facts (ks ++ [(k : Int)]) := by
  refine ⟨by simp; omega, fun i h1 h2 => ?_⟩
  by_cases hi : i < ks.length
  · simp only [List.getElem_append_left hi]
    exact h.2 i hi h2
  · have : i = ks.length := by simp at h1; omega
    subst this
    simp only [List.getElem_concat_length]
    exact ⟨⟨by omega, by omega⟩, hr⟩
/-- The loop over the facts. -/
def PsI (W : World) (B : Nat) (L : List Pl) (item : Int) (facts : List Int) (s8 s22 : Value) (wr : World) : Prop :=
  ∃ (i : Nat) (ks : List Int), s22 = .int .i64 (i : Nat) ∧ ks.length = i ∧ FoundL L item facts ks ∧ wr.ownsRow B 3 1 s8 i (intsC ks) ∧ Below W.heap.size W wr
theorem idx_nat {L : List Pl} {p : Pl → Bool} {k : Int} (h : IdxR p L k) (h0 : ¬ k < 0) : ∃ j : Nat, k = (j : Int) ∧ j < L.length := by
  rcases h with ⟨rfl, _⟩ | ⟨j, hj, rfl, _⟩
  · omega
  · exact ⟨j, rfl, hj⟩
theorem idx_none {L : List Pl} {p : Pl → Bool} {k : Int} (h : IdxR p L k) (h0 : k < 0) : ∀ x ∈ L, p x = false := by
  rcases h with ⟨_, h⟩ | ⟨j, hj, rfl, _⟩
  · exact h
  · omega
set_option maxHeartbeats 8000000 in
theorem placesC_any (L : List Pl) (item : Int) (needs : List Int) (pv nv : Value) (hN : needs.length ≤ 1048576) (hL : L.length ≤ 1048576) (w : World) (hp : PlacesAt w pv L) (hn : IntsAt w nv needs) :
    Calls Try.prog 57 #[pv, .int .i64 item, nv] w fun e w' => ∃ (oa : Option Addr) (oc : Nat) (o : List Int) (ez : Int), e = .returned (.tuple #[.slice oa o.length oc, .int .i64 ez]) ∧ IntsAt w' (.slice oa o.length oc) o ∧ PlacesR L item (compZ (sortZ needs)) o ez ∧ Below w.heap.size w w' := by
  obtain ⟨a, c, rfl, hca, hma⟩ := PlacesAt.form hp
  obtain ⟨b, d, rfl, hcb, hmb⟩ := hn.1.form
  unfold maxLen at hma hmb
  have hsl : (sortZ needs).length = needs.length := (sortZ_perm needs).length_eq
  have hcl := compZ_len (sortZ needs)
  obtain ⟨W0, hW0⟩ : ∃ W0, W0 = w.alloc (.cells #[.int .i64 item] 3) := ⟨_, rfl⟩
  have hb0 : Below w.heap.size w W0 := by rw [hW0]; exact (Below.refl _ _).alloc (Nat.le_refl _) _
  have hq0 : W0.heap[w.heap.size]? = some (.cells #[.int .i64 item] 3) := by rw [hW0]; exact heap_alloc_new _ _
  obtain ⟨PB, hPB⟩ : ∃ PB, PB = w.heap.size := ⟨_, rfl⟩
  rw [← hPB] at hq0
  have HI := hidep (show ∀ X, Below W0.heap.size W0 X → X.cell? ⟨PB, 0, none⟩ = some (.int .i64 item) ∧ PB < X.heap.size from fun X hX => ⟨box1_cell (below_push hX hq0), Nat.lt_of_lt_of_le (lt_of_block hq0) hX.size⟩)
  have HPX := hidep (show ∀ X, Below W0.heap.size W0 X → PlacesAt X (.slice a L.length c) L from fun X hX => (hp.below hb0).below hX)
  have hb01 : Below W0.heap.size W0 (W0.alloc (.cells #[.slice b needs.length d] 22)) := (Below.refl _ _).alloc (Nat.le_refl _) _
  have HV := hidep (values_any b needs.length d W0)
  have HS := hidep (sorted_any W0.heap.size needs (.slice b needs.length d) (W0.alloc (.cells #[.slice b needs.length d] 22)) (heap_alloc_new _ _) ((hn.below hb0).below hb01) hN)
  have HC := hidep (fun v X (h : X.ownsRow (W0.alloc (.cells #[.slice b needs.length d] 22)).heap.size 3 1 v needs.length (intsC (sortZ needs))) (hX : (W0.alloc (.cells #[.slice b needs.length d] 22)).heap.size ≤ X.heap.size) => compact_any (W0.alloc (.cells #[.slice b needs.length d] 22)).heap.size (sortZ needs) v X (by rw [hsl]; exact h) hX (by omega))
  have HB01 := hidep hb01
  have HRG := hidep (show ∀ x ∈ compZ (sortZ needs), -9223372036854775808 ≤ x ∧ x ≤ 9223372036854775807 from fun x hx => by
    have h1 : x ∈ sortZ needs := by
      unfold compZ Lib.compact Lib.compactUpTo at hx
      obtain ⟨i, hi, rfl⟩ := List.mem_map.1 hx
      have hi' : i < (sortZ needs).length := List.mem_range.1 (List.mem_filter.1 hi).1
      simp [getElem!_pos, hi']
    exact hn.2 x ((sortZ_perm needs).mem_iff.1 h1))
  obtain ⟨facts, hfacts⟩ : ∃ facts, facts = compZ (sortZ needs) := ⟨_, rfl⟩
  rw [← hfacts] at HC HRG hcl ⊢
  have HB0 := hidep hb0
  clear hp hn hb01 hfacts hb0
  go_enter Try.func57, Try.ntmps57
  go_upto_region 1 with (fail)
  rw [← hW0, ← hPB]
  clear hW0 hPB
  go_upto_region 3 with (first
    | (go_at_call 45; refine HV.out.mono ?_; rintro e w1 ⟨rfl, rfl⟩)
    | (go_at_call 44; refine HS.out.mono ?_; rintro e w2 ⟨sv, rfl, hown2, hb2⟩; have hs2 := hb2.size)
    | (go_at_call 77; refine (HC.out _ _ hown2 hs2).mono ?_; rintro e w3 ⟨fv, rfl, hown3, hb3⟩; obtain ⟨fa, fc, rfl, _, _⟩ := (Rd.of_own hown3).form)
    | fail)
  have hbX : Below W0.heap.size W0 w3 := (HB01.out.trans (hb2.mono HB01.out.size)).trans (hb3.mono (by have := HB01.out.size; omega))
  have HF3 := hidep (show IntsAt w3 (.slice fa facts.length fc) facts from ⟨(Rd.of_own hown3).mono (fun _ _ => trivial), HRG.out⟩)
  have HX3 := hidep hbX
  clear hown2 hb2 hown3 hb3 hs2 hbX HV HS HC HB01
  by_cases h8 : 8 < facts.length
  · have h8i : (8 : Int) < (facts.length : Int) := by omega
    go_wp2
    refine bodyPost_ret (results_tmp2 rfl _ _ _) rfl ?_
    exact ⟨none, 0, [], 4, rfl, (IntsOf.nil (fun _ => True) _).at, .inl ⟨h8, rfl, rfl⟩, HB0.out.trans (HX3.out.mono HB0.out.size)⟩
  · have h8i : ¬ (8 : Int) < (facts.length : Int) := by omega
    have H8 : Hid (facts.length ≤ 8) := hidep (by omega)
    clear h8
    obtain ⟨B, hB⟩ : ∃ B, B = w3.heap.size := ⟨_, rfl⟩
    have HBB := hidep hB
    go_upto_region 6 with (fail)
    refine wp_loop (LoopI 39 (fun tm ds wr => (slot tm 0) = .slice a L.length c ∧ (slot tm 4) = .pointer (some ⟨PB, 0, none⟩) ∧ (slot tm 20) = .slice fa facts.length fc ∧ (slot tm 21) = .int .i64 (facts.length : Nat) ∧ ds = [] ∧ PsI w3 B L item facts (slot tm 8) (slot tm 22) wr)) (fun a' wr => facts.length - (intOf (a'.tmps.getD 22 undef)).toNat) ?mainStart ?mainRound
    case' mainStart => refine LoopI.mk rfl ?_
    case' mainRound => (rintro ⟨t, ds⟩ wr ⟨hts, hrel⟩; dsimp only at hts hrel; rw [frame39 t ds hts])
    case mainStart => exact ⟨rfl, rfl, rfl, rfl, rfl, 0, [], rfl, rfl, ⟨Nat.zero_le _, fun i h' _ => absurd h' (Nat.not_lt_zero i)⟩, World.ownsRow_nil _ _ _ _, Below.refl _ _⟩
    clear hB
    obtain ⟨h0, h4, h20, h21, hds, i, ks, h22, hkl, hfl, hown, hbw⟩ := hrel
    subst hds
    obtain ⟨ka, kc, hkv, _, _⟩ := (Rd.of_own hown).form
    rw [hkv] at hown
    rw [h0, h4, h20, h21, h22, hkv]
    clear h0 h4 h20 h21 h22 hkv hts
    have hil : i ≤ facts.length := by rw [← hkl]; exact hfl.1
    have HFL := hidep hfl
    have HKL := hidep hkl
    have HOWN := hidep hown
    have HBW := hidep hbw
    have h8n : facts.length ≤ 8 := H8.out
    clear hfl hkl hown
    by_cases hlt : i < facts.length
    · have hi0 : (0 : Int) ≤ (i : Int) := by omega
      have hi1 : (i : Int) < (facts.length : Int) := by omega
      obtain ⟨fb, fo, rfl, hfb, hfc⟩ := ints_get (HF3.out.below hbw) hlt
      obtain ⟨f, hf⟩ : ∃ f, f = facts[i] := ⟨_, rfl⟩
      rw [← hf] at hfc
      have HFE := hidep hf
      clear hf
      obtain ⟨W7, hW7⟩ : ∃ W7, W7 = wr.alloc (.cells #[.int .i64 f] 3) := ⟨_, rfl⟩
      have hb7 : Below wr.heap.size wr W7 := by rw [hW7]; exact (Below.refl _ _).alloc (Nat.le_refl _) _
      have hq7 : W7.heap[wr.heap.size]? = some (.cells #[.int .i64 f] 3) := by rw [hW7]; exact heap_alloc_new _ _
      have h07 := HX3.out.trans ((HBW.out.trans (hb7.mono HBW.out.size)).mono HX3.out.size)
      have HIX := hidep (idxP_any PB wr.heap.size item f (.slice a L.length c) L W7 (HPX.out W7 h07) (HI.out W7 h07).1 (box1_cell hq7) (HI.out W7 h07).2 (lt_of_block hq7))
      go_upto_region 8 with (fail)
      rw [← hW7]
      have HOWN7 := hidep (ownsRow_turned HOWN.out (Turned.of_below (T := fun _ => False) hb7) (fun _ _ h => h))
      have HB7 := hidep (HBW.out.trans (hb7.mono HBW.out.size))
      clear hq7 hW7 hb7 h07 hbw
      go_upto_region 9 with (first
        | (go_at_call 78; refine HIX.out.mono ?_; rintro e w8 ⟨⟨k, rfl, hk⟩, hb8⟩)
        | fail)
      have HOWN8 := hidep (ownsRow_turned HOWN7.out (Turned.of_below (T := fun _ => False) hb8) (fun _ _ h => h))
      have HB8 := hidep (HB7.out.trans (hb8.mono HB7.out.size))
      have HK := hidep hk
      clear hk hb8 HIX
      by_cases hk0 : k < 0
      · have HNO := hidep (idx_none HK.out hk0)
        go_wp2
        refine bodyPost_ret (results_tmp2 rfl _ _ _) rfl ?_
        refine ⟨none, 0, [], 11, rfl, (IntsOf.nil (fun _ => True) _).at, .inr (.inl ⟨h8n, rfl, rfl, f, ?_, HNO.out⟩), HB0.out.trans ((HX3.out.trans (HB8.out.mono HX3.out.size)).mono HB0.out.size)⟩
        rw [HFE.out]
        exact List.getElem_mem hlt
      · obtain ⟨j, hj, hjl⟩ := idx_nat HK.out hk0
        have HFN := hidep (HFL.out.snoc (k := j) (by rw [HKL.out]; exact hlt) (by simp only [HKL.out]; rw [← HFE.out, ← hj]; exact HK.out) hjl)
        rw [← hj] at HFN
        have hfr := Rd.fresh w8 #[.int .i64 k] 3 1 1 rfl (by decide)
        have hBs : B ≤ w8.heap.size := by rw [HBB.out]; exact HB8.out.size
        clear hj
        go_wp2_with (first
          | (at_builtin; refine wpList_append_rd _ rfl (.tmp 31) (.tmp 33) rfl slIntsR B _ _ _ rfl (HOWN8.out.alloc _) _ _ _ _ rfl hfr (by intro u hu; simp at hu; rw [hu]; rfl) (by unfold maxLen; omega) (by omega) (by simp; omega) ?_; intro v2 w2 hown2 hgr2 hat2 hnl2; clear hat2 hnl2)
          | fail)
        have hend : Below w3.heap.size w3 w2 := (HB8.out.alloc HB8.out.size _).grown hgr2 (by have := HB8.out.size; simp; omega) (fun g hg => by rw [← HBB.out]; exact (HOWN8.out.lt g hg).1)
        refine ⟨LoopI.mk rfl ⟨rfl, rfl, rfl, rfl, rfl, i + 1, ks ++ [k], by show Value.int _ _ = _; go_num, by simp [HKL.out], HFN.out, by rw [show intsC (ks ++ [k]) = intsC ks ++ [Value.int .i64 k] by simp [intsC]]; exact hown2, hend⟩, ?_⟩
        show facts.length - _ < facts.length - _
        simp [intOf]; omega
    · have hie : i = facts.length := by omega
      subst hie
      have HOWNK := hidep (show wr.ownsRow B 3 1 (.slice ka ks.length kc) ks.length (intsC ks) by rw [HKL.out]; exact HOWN.out)
      have hBs : B ≤ wr.heap.size := by rw [HBB.out]; exact HBW.out.size
      have HSO := hidep (sort_own B ks (.slice ka ks.length kc) wr HOWNK.out hBs (by have := HKL.out; omega))
      rw [HKL.out] at HSO
      go_wp2_with (first
        | (go_at_call 63; refine HSO.out.mono ?_; rintro e w9 ⟨⟨x9, rfl⟩, hown9, hb9⟩)
        | fail)
      refine bodyPost_ret (results_tmp2 rfl _ _ _) rfl ?_
      have hsl2 : (sortZ ks).length = facts.length := by rw [(sortZ_perm ks).length_eq]; exact HKL.out
      have hb0e := HB0.out.trans ((HX3.out.trans ((HBW.out.trans (hb9.mono (by rw [HBB.out]; exact Nat.le_refl _))).mono HX3.out.size)).mono HB0.out.size)
      refine ⟨ka, kc, sortZ ks, 0, by rw [hsl2]; rfl, ⟨?_, fun x hx => ?_⟩, .inr (.inr ⟨h8n, rfl, ks, HKL.out, HFL.out, rfl⟩), hb0e⟩
      · rw [hsl2]
        exact (Rd.of_own hown9).mono (fun _ _ => trivial)
      · have hx2 := (sortZ_perm ks).mem_iff.1 hx
        obtain ⟨j, hj, rfl⟩ := List.getElem_of_mem hx2
        have := (HFL.out.2 j hj (by have := HKL.out; omega)).1
        omega
end Go.Proofs.Ytfljgcpfmhhgcaa
