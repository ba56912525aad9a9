/- Contracts: the code's equality of texts (a closure of texts); slices.CompactFunc with it. -/
import Derived.Test.YtcfjepcflanjbaaGreatBr02
import Derived.Test.YtcfjepcflanjbaaGreatBr15
import Derived.Test.YtcfjepcflanjbaaGreatBr29
import Derived.Test.YtcfjepcflanjbaaGreatBr07
import Derived.Shelf.Abstract
namespace Go.Proofs.YtcfjepcflanjbaaGreat
open Go.RowKit Go.Lab Go.Shelf
set_option maxRecDepth 100000
theorem slSymssD : SlT Tryz.prog 42 31 (.slice none 0 0) 1 24 := ⟨by kernel_rfl, by kernel_rfl, rfl, by decide⟩
set_option maxHeartbeats 1000000 in
theorem texts2_any (va vb : Value) (a b : List Sym) (w : World) (ha : SymsAt w va a) (hb : SymsAt w vb b) : Calls Tryz.prog 110 #[va, vb] w fun e w' => e = .returned (.bool (decide (a = b))) /\ Below w.heap.size w w' := by
  have HC := hidep (compare_any va vb a b w ha hb)
  by_cases hab : a = b
  · have hz : zq13 a b = 0 := zq4c.2 hab
    rw [hz] at HC
    rw [decide_eq_true hab]
    clear ha hb hab hz
    go_enter Tryz.func110, Tryz.ntmps110
    go_wp2_with (go_at_call 108; refine HC.out.mono ?_; rintro e w1 ⟨rfl, hb1⟩)
    go_ret
    exact ⟨rfl, hb1⟩
  · have hz : zq13 a b ≠ 0 := fun e => hab (zq4c.1 e)
    obtain ⟨z, hze⟩ : ∃ z, z = zq13 a b := ⟨_, rfl⟩
    rw [<- hze] at HC hz
    rw [decide_eq_false hab]
    have hzf : (z == 0) = false := by simp [hz]
    clear ha hb hab hze
    go_enter Tryz.func110, Tryz.ntmps110
    go_wp2_with (go_at_call 108; refine HC.out.mono ?_; rintro e w1 ⟨rfl, hb1⟩)
    go_ret
    exact ⟨rfl, hb1⟩
theorem run_clear_symss (w : World) (ty : TypeId) (b o n c : Nat) (hn : 0 < n) (hc : ∀ j, j < n -> (w.cell? ⟨b, o + j, none⟩).isSome = true) (hf : ∀ j, j < n -> w.frozen? ⟨b, o + j, none⟩ = false) :
    (Builtin.clear_ #[42] ty #[.slice (some ⟨b, o, none⟩) n c]).run Tryz.prog w = .ok (.tuple #[]) (w.setCells b o (Builtin.zeroCells #[.slice none 0 0] n).toList) := by
  have hlen : (Builtin.zeroCells #[.slice none 0 0] n).toList.length = n := by simp [Builtin.zeroCells]
  have hone : ∀ v ∈ (Builtin.zeroCells #[.slice none 0 0] n).toList, v.oneCell' = true := by
    intro v hv
    simp only [Builtin.zeroCells, Array.toList_map, List.mem_map] at hv
    obtain ⟨k, _, rfl⟩ := hv
    simp [Nat.mod_one]
    rfl
  have hst := run_storeCells_cells (P := Tryz.prog) b o (Builtin.zeroCells #[.slice none 0 0] n).toList 0 w (by simpa [hlen] using hc) (by simpa [hlen] using hf) hone
  simp only [Nat.add_zero] at hst
  obtain ⟨m, rfl⟩ : ∃ m, n = m + 1 := ⟨n - 1, by omega⟩
  have hz : ∀ w, (zeroValue 31).run Tryz.prog w = .ok (.slice none 0 0) w := fun w => by kernel_rfl
  simp [Builtin.clear_, run_underlying slSymssD.und, hz, Value.cells, hst]
theorem rowAt_front {w : World} {g : Nat} {t : TypeId} {cs : List Value} (h : RowAt w g t cs) {o : Nat} (ho : cs.length <= o) : ∀ (vs : List Value) (q : Nat) , o <= q -> RowAt (w.setCells g q vs) g t cs
  | [], _, _ => h
  | v :: r, q, hq => by
    rw [World.setCells]
    refine rowAt_front ?_ ho r (q + 1) (by omega)
    obtain ⟨cur, h1, hc⟩ := h
    refine ⟨cur.setIfInBounds q v, heap_setCell_same w g q cur t v h1, fun j u hu => ?_⟩
    have hj := (List.getElem?_eq_some_iff.1 hu).1
    rw [Array.getElem?_setIfInBounds, if_neg (by omega)]
    exact hc j u hu
theorem turned_setCells {T : Nat -> Prop} {a : World} {b : Nat} (hB : T b) : ∀ (vs : List Value) (o : Nat) (w : World), Turned T a w -> Turned T a (w.setCells b o vs)
  | [], _, _, h => h
  | v :: r, o, w, h => by
    rw [World.setCells]
    exact turned_setCells hB r (o + 1) _ (h.setCell ⟨b, o, none⟩ v (.inr hB))
theorem rdRowAt {w : World} {g : Nat} {e : TypeId} {k n c : Nat} {cs : List Value} (h : RowAt w g e cs) (hl : cs.length = n * k) (hn : n <= c) (hc : c <= maxLen) : Rd w (· = e) k (.slice (some ⟨g, 0, none⟩) n c) n cs := by
  obtain ⟨cur, h1, hcc⟩ := h
  refine ⟨hl, _, _, rfl, hn, hc, (fun e => by cases e), fun ad e _ => ?_⟩
  injection e with e
  subst e
  refine ⟨rfl, cur, _, _, rfl, h1, fun j u hu => ?_⟩
  rw [Nat.zero_add]
  exact hcc j u hu
/-! ### plain -/
def cptL (L : List (List Sym)) (k : Nat) : List (List Sym) := dupZ (L.getD (k - 1) []) (L.drop k)
theorem zq45 {α : Type} (l : List α) (d : α) {k : Nat} (h : k < l.length) : l.getD k d = l[k] := by
  rw [List.getD_eq_getElem?_getD, List.getElem?_eq_getElem h]; rfl
theorem zq97 {L : List (List Sym)} {k : Nat} (hk : k < L.length) : cptL L k = if L.getD k [] = L.getD (k - 1) [] then cptL L (k + 1) else L.getD k [] :: cptL L (k + 1) := by
  unfold cptL
  rw [List.drop_eq_getElem_cons hk, Nat.add_sub_cancel, zq45 L [] hk]
  show (if zq13 L[k] (L.getD (k - 1) []) = 0 then _ else _) = _
  by_cases h : L[k] = L.getD (k - 1) []
  · rw [if_pos (zq4c.2 h), if_pos h, <- h]
  · rw [if_neg (fun e => h (zq4c.1 e)), if_neg h]
theorem cptL_end (L : List (List Sym)) : cptL L L.length = [] := by
  unfold cptL
  rw [List.drop_length]
  rfl
theorem compZ_start {L : List (List Sym)} (h : 0 < L.length) : compZ L = L.take 1 ++ cptL L 1 := by
  cases L with
  | nil => exact absurd h (by decide)
  | cons x l => rfl
structure CptSt (us : List Value) (L : List (List Sym)) (js : List Nat) (q : Nat) (R : List Value) : Prop where
  len : R.length = us.length
  lt : js.length < q
  le : q <= us.length
  ix : ∀ j ∈ js, j < us.length
  fst : R.take js.length = js.map fun j => us.getD j undef
  rest : R.drop (q - 1) = us.drop (q - 1)
  got : compZ L = (js.map fun j => L.getD j []) ++ cptL L q
section
variable {us : List Value} {L : List (List Sym)} {js : List Nat} {q : Nat} {R : List Value}
theorem CptSt.get (h : CptSt us L js q R) {j : Nat} (hj : q <= j + 1) (hn : j < us.length) : R[j]? = some us[j] := by
  have := congrArg (·[j - (q - 1)]?) h.rest
  simp only [List.getElem?_drop] at this
  rw [show q - 1 + (j - (q - 1)) = j from by omega] at this
  rw [this, List.getElem?_eq_getElem hn]
theorem CptSt.skip (h : CptSt us L js q R) (hl : us.length = L.length) (hq : q < us.length) (he : L.getD q [] = L.getD (q - 1) []) : CptSt us L js (q + 1) R := by
  refine ⟨h.len, by have := h.lt; omega, hq, h.ix, h.fst, ?_, ?_⟩
  · have := congrArg (List.drop 1) h.rest
    rw [List.drop_drop, List.drop_drop] at this
    rw [show q + 1 - 1 = q - 1 + 1 from by have := h.lt; omega]
    exact this
  · rw [h.got, zq97 (by omega), if_pos he]
theorem CptSt.keep (h : CptSt us L js q R) (hl : us.length = L.length) (hq : q < us.length) (he : L.getD q [] ≠ L.getD (q - 1) []) : CptSt us L (js ++ [q]) (q + 1) (R.set js.length us[q]) := by
  have hlt := h.lt
  have hjl : js.length < R.length := by rw [h.len]; omega
  refine ⟨by rw [List.length_set]; exact h.len, by rw [List.length_append, List.length_singleton]; omega, hq, fun j hj => ?_, ?_, ?_, ?_⟩
  · rcases List.mem_append.1 hj with hj | hj
    · exact h.ix j hj
    · rw [List.mem_singleton] at hj; omega
  · rw [List.length_append, List.length_singleton, List.take_succ_eq_append_getElem (by rw [List.length_set]; exact hjl), List.take_set_of_le (Nat.le_refl _), h.fst, List.map_append, List.getElem_set_self]
    rw [List.map_singleton, zq45 us undef hq]
  · have := congrArg (List.drop 1) h.rest
    rw [List.drop_drop, List.drop_drop] at this
    rw [show q + 1 - 1 = q - 1 + 1 from by omega, List.drop_set_of_lt (by omega)]
    exact this
  · rw [h.got, zq97 (by omega), if_neg he, List.map_append, List.append_assoc]
    rfl
theorem zq73 {α : Type} (l : List α) (d : α) : ∀ k, k <= l.length -> (List.range k).map (fun j => l.getD j d) = l.take k
  | 0, _ => by simp
  | k + 1, h => by
    rw [List.range_succ, List.map_append, zq73 l d k (by omega), List.take_succ_eq_append_getElem (by omega), List.map_singleton, zq45 l d (by omega)]
theorem CptSt.start (hl : us.length = L.length) {k : Nat} (hk : k < us.length) (hg : compZ L = L.take k ++ cptL L k) (he : L.getD k [] = L.getD (k - 1) []) : CptSt us L (List.range k) (k + 1) us := by
  refine ⟨rfl, by rw [List.length_range]; omega, hk, fun j hj => by have := List.mem_range.1 hj; omega, ?_, rfl, ?_⟩
  · rw [List.length_range, zq73 us undef k (by omega)]
  · rw [zq73 L [] k (by omega), hg, zq97 (by omega), if_pos he]
theorem CptSt.done (h : CptSt us L js q R) (hl : us.length = L.length) (hq : q = us.length) : compZ L = js.map (fun j => L.getD j []) := by
  have h1 := h.got
  rw [hq, hl, cptL_end, List.append_nil] at h1
  exact h1
end
theorem zqdd (t : Array Value) (ds : List Deferred) (h : t.size = 66) : ({ tmps := t, defers := ds } : Act) = { tmps := #[slot t 0, slot t 1, slot t 2, slot t 3, slot t 4, slot t 5, slot t 6, slot t 7, slot t 8, slot t 9, slot t 10, slot t 11, slot t 12, slot t 13, slot t 14, slot t 15, slot t 16, slot t 17, slot t 18, slot t 19, slot t 20, slot t 21, slot t 22, slot t 23, slot t 24, slot t 25, slot t 26, slot t 27, slot t 28, slot t 29, slot t 30, slot t 31, slot t 32, slot t 33, slot t 34, slot t 35, slot t 36, slot t 37, slot t 38, slot t 39, slot t 40, slot t 41, slot t 42, slot t 43, slot t 44, slot t 45, slot t 46, slot t 47, slot t 48, slot t 49, slot t 50, slot t 51, slot t 52, slot t 53, slot t 54, slot t 55, slot t 56, slot t 57, slot t 58, slot t 59, slot t 60, slot t 61, slot t 62, slot t 63, slot t 64, slot t 65], defers := ds } :=
  (congrArg (fun x => ({ tmps := x, defers := ds } : Act)) (zq1e h)).trans (by kernel_rfl)
def VCa (L : List (List Sym)) (us : List Value) (w : World) (kv : Value) (wr : World) : Prop :=
  ∃ k : Nat, 1 <= k /\ k <= us.length /\ kv = .int .i64 (k : Nat) /\ compZ L = L.take k ++ cptL L k /\ Below w.heap.size w wr
def VCb (L : List (List Sym)) (g : Nat) (us : List Value) (k0 : Nat) (w : World) (kv jv : Value) (wr : World) : Prop :=
  ∃ (j : Nat) (js : List Nat) (R : List Value), 1 <= j /\ k0 + j <= us.length /\ kv = .int .i64 (js.length : Nat) /\ jv = .int .i64 (j : Nat) /\ CptSt us L js (k0 + j) R /\ RowAt wr g 31 R /\ Turned (fun b => b = g) w wr
set_option maxHeartbeats 8000000 in
theorem compact_any (base : Nat) (v : Value) (us : List Value) (L : List (List Sym)) (w : World) (ho : w.ownsRow base 31 1 v us.length us) (hl : us.length = L.length) (hs : ∀ i (h : i < us.length) (h' : i < L.length), SymsAt w us[i] L[i]) (hn : us.length <= 1000000) :
    Calls Tryz.prog 109 #[v, .func (.func 110) #[] #[]] w fun e w' => ∃ v', e = .returned v' /\ SymssAt w' v' (compZ L) /\ Turned (fun b => v.ownBlock = some b) w w' := by
  by_cases h2 : us.length < 2
  · have hcz : compZ L = L := by
      cases L with
      | nil => rfl
      | cons x l =>
        cases l with
        | nil => rfl
        | cons y l => rw [hl] at h2; simp at h2; omega
    rw [hcz]
    have HR := hidep (show SymssAt w v L from ⟨us, hl, by rw [<- hl]; exact Rd.of_own ho, fun i h h' => hs i h' h⟩)
    obtain ⟨a, c, rfl, hc1, hc2⟩ := (Rd.of_own ho).form
    have hi2 : (us.length : Int) < 2 := by omega
    clear ho hs hcz
    go_enter Tryz.func109, Tryz.ntmps109
    go_wp2
    go_ret
    exact ⟨_, rfl, HR.out, Turned.refl _ _⟩
  · have hne : 0 < us.length := by omega
    obtain ⟨g, c, rfl, hg, hnc, hcm, hrow⟩ := RowAt.of_own ho hne
    unfold maxLen at hcm
    have HROW := hidep hrow
    have HS := hidep (fun (Z : World) (hZ : Turned (fun b => b = g) w Z) i (h : i < us.length) (h' : i < L.length) => show SymsAt Z us[i] L[i] from (hs i h h').keeps (T := fun t => t ≠ 31) ⟨hZ.size, fun b cur t fz ht hb => hZ.cells hb (fun e => by
        subst e
        obtain ⟨cur2, h2, _⟩ := hrow
        rw [h2] at hb
        injection hb with hb
        injection hb with _ h3 _
        exact ht h3.symm)⟩ (by decide))
    obtain ⟨n, hnn⟩ : ∃ n, n = us.length := ⟨_, rfl⟩
    have HN := hidep hnn
    have HL := hidep hl
    have hi2 : ¬ (n : Int) < 2 := by omega
    rw [<- hnn] at hnc hn h2 hne
    clear ho hrow hs
    rw [<- hnn]
    clear hnn hl
    go_enter Tryz.func109, Tryz.ntmps109
    go_upto_region 4 with (fail)
    refine wp_loop (LoopI 66 (fun tm ds wr => (slot tm 0) = .slice (some ⟨g, 0, none⟩) n c /\ (slot tm 1) = .func (.func 110) #[] #[] /\ ds = [] /\ VCa L us w (slot tm 5) wr)) (fun a' wr => n - natI (a'.tmps.getD 5 undef)) ?olStart ?olRound
    case' olStart => refine LoopI.mk rfl ?_
    case' olRound => (rintro ⟨t, ds⟩ wr ⟨hts, hrel⟩; dsimp only at hts hrel; rw [zqdd t ds hts])
    case olStart => exact ⟨rfl, rfl, rfl, 1, Nat.le_refl _, by rw [<- HN.out]; omega, rfl, compZ_start (by rw [<- HL.out, <- HN.out]; omega), Below.refl _ _⟩
    obtain ⟨e0, e1, hds, k, hk1, hkn, e5, hgot, hbw⟩ := hrel
    subst hds
    rw [e0, e1, e5]
    clear e0 e1 e5 hts
    rw [<- HN.out] at hkn
    have HGOT := hidep hgot
    have HBW := hidep hbw
    clear hgot hbw
    by_cases hkl : k < n
    · have hki : (k : Int) < (n : Int) := by omega
      have hk0 : (0 : Int) <= (k : Int) := by omega
      have hwk : IntKind.i64.wrap ((k : Int) - 1) = ((k - 1 : Nat) : Int) := by rw [IntWalk.i64_in _ (by omega)]; omega
      have hwk1 : IntKind.i64.wrap ((k : Int) + 1) = (k : Int) + 1 := IntWalk.i64_in _ (by omega)
      have hk1i : ((k - 1 : Nat) : Int) < (n : Int) := by omega
      have hk1j : (0 : Int) <= ((k - 1 : Nat) : Int) := by omega
      have hku : k < us.length := by rw [<- HN.out]; exact hkl
      have hkv : k - 1 < us.length := by omega
      have hkL : k < L.length := by rw [<- HL.out]; exact hku
      obtain ⟨x, hx⟩ : ∃ x, x = us[k] := ⟨_, rfl⟩
      obtain ⟨y, hy⟩ : ∃ y, y = us[k - 1] := ⟨_, rfl⟩
      have hsx := HS.out wr (Turned.of_below HBW.out) k hku hkL
      have hsy := HS.out wr (Turned.of_below HBW.out) (k - 1) hkv (by omega)
      rw [<- hx] at hsx
      rw [<- hy] at hsy
      obtain ⟨xa, xc, hxv, -, -⟩ := hsx.form
      obtain ⟨ya, yc, hyv, -, -⟩ := hsy.form
      have HXY := hidep (And.intro hx hy)
      rw [hxv] at hsx
      rw [hyv] at hsy
      have HQ := hidep (fun (Z : World) (hZ : Below wr.heap.size wr Z) => texts2_any _ _ _ _ Z (hsx.below hZ) (hsy.below hZ))
      have HSEE := hidep (fun (Z : World) (hZ : Below wr.heap.size wr Z) => by
        have h0 := HROW.out.of_block ((HBW.out.trans (hZ.mono HBW.out.size)).block g HROW.out.lt)
        have h1 := h0.cell (List.getElem?_eq_getElem hku)
        have h2 := h0.cell (List.getElem?_eq_getElem hkv)
        rw [<- HXY.out.1, hxv] at h1
        rw [<- HXY.out.2, hyv] at h2
        exact And.intro h1 h2)
      obtain ⟨eb, heb⟩ : ∃ e, e = decide (L[k] = L[k - 1]) := ⟨_, rfl⟩
      rw [<- heb] at HQ
      have HEB := hidep (show eb = decide (L.getD k [] = L.getD (k - 1) []) from by rw [heb, zq45 L [] hkL, zq45 L [] (by omega)])
      obtain ⟨xl, hxl⟩ : ∃ x, x = L[k].length := ⟨_, rfl⟩
      obtain ⟨yl, hyl⟩ : ∃ x, x = L[k - 1].length := ⟨_, rfl⟩
      rw [<- hxl] at hxv HSEE HQ
      rw [<- hyl] at hyv HSEE HQ
      have HKU := hidep (And.intro hku hkL)
      clear hx hy hsx hsy heb hxl hyl hxv hyv
      obtain ⟨wo, hwo⟩ : ∃ wo : World, wo = wr := ⟨_, rfl⟩
      rw [<- hwo] at HSEE HQ HBW ⊢
      clear hwo
      go_upto_region 6 with (fail)
      cases eb with
      | false =>
        refine wp_region_noPanic (wp_region_held_drew (S := (fun Z => Below wo.heap.size wo Z)) (by kernel_rfl) ?hSz0 (fun hHeld => ?hRz0))
        case hSz0 => ((try dsimp only); (exact (Below.refl _ _).drew))
        refine tkC 0 rfl ?_
        refine tkC 1 rfl ?_
        refine tkC 2 rfl ?_
        refine tkC 3 rfl ?_
        refine tkB 4 rfl (.inl ⟨by kernel_rfl, fun w hSw => by (obtain ⟨hx, hy⟩ := HSEE.out _ hSw); go_simp; first | done | with_reducible rfl⟩) ?_
        refine tkC 5 rfl ?_
        refine tkC 6 rfl ?_
        refine tkC 7 rfl ?_
        refine tkC 8 rfl ?_
        refine tkB 9 rfl (.inl ⟨by kernel_rfl, fun w hSw => by (obtain ⟨hx, hy⟩ := HSEE.out _ hSw); go_simp; first | done | with_reducible rfl⟩) ?_
        refine wpAnyH_ready (rs := [10]) (by kernel_rfl) (by simp) (AllReadyH.cons rfl (fun K hK => ?hcz1) AllReadyH.nil)
        go_simp
        (go_at_call 110; refine (HQ.out _ hHeld).mono ?_; rintro e' w9 ⟨rfl, hb9⟩; have hk9 := hHeld.trans (hb9.mono hHeld.size); (try dsimp only))
        refine hK.out _ _ (by (try dsimp only); (exact hk9)) ?_
        clear hHeld hK; intro hHeld
        refine wpAnyH_done (by kernel_rfl) ?_ _
        clear hHeld
        refine NoPanic.normal ?_
        have HE2 := hidep (show compZ L = L.take (k + 1) ++ cptL L (k + 1) from by
          rw [HGOT.out, zq97 HKU.out.2, if_neg (of_decide_eq_false HEB.out.symm), List.take_succ_eq_append_getElem HKU.out.2, zq45 L [] HKU.out.2, List.append_assoc]
          rfl)
        go_wp2
        refine ⟨LoopI.mk rfl ⟨rfl, rfl, rfl, k + 1, by omega, by rw [<- HN.out]; omega, by show Value.int _ _ = _; go_num, HE2.out, HBW.out.trans (hk9.mono HBW.out.size)⟩, ?_⟩
        show n - _ < n - _
        simp [natI]; omega
      | true =>
        have heq : L.getD k [] = L.getD (k - 1) [] := of_decide_eq_true HEB.out.symm
        have HST := hidep (CptSt.start HL.out HKU.out.1 HGOT.out heq)
        clear heq
        refine wp_region_noPanic (wp_region_held_drew (S := (fun Z => Below wo.heap.size wo Z)) (by kernel_rfl) ?hSz2 (fun hHeld => ?hRz2))
        case hSz2 => ((try dsimp only); (exact (Below.refl _ _).drew))
        refine tkC 0 rfl ?_
        refine tkC 1 rfl ?_
        refine tkC 2 rfl ?_
        refine tkC 3 rfl ?_
        refine tkB 4 rfl (.inl ⟨by kernel_rfl, fun w hSw => by (obtain ⟨hx, hy⟩ := HSEE.out _ hSw); go_simp; first | done | with_reducible rfl⟩) ?_
        refine tkC 5 rfl ?_
        refine tkC 6 rfl ?_
        refine tkC 7 rfl ?_
        refine tkC 8 rfl ?_
        refine tkB 9 rfl (.inl ⟨by kernel_rfl, fun w hSw => by (obtain ⟨hx, hy⟩ := HSEE.out _ hSw); go_simp; first | done | with_reducible rfl⟩) ?_
        refine wpAnyH_ready (rs := [10]) (by kernel_rfl) (by simp) (AllReadyH.cons rfl (fun K hK => ?hcz3) AllReadyH.nil)
        go_simp
        (go_at_call 110; refine (HQ.out _ hHeld).mono ?_; rintro e' w9 ⟨rfl, hb9⟩; have hk9 := hHeld.trans (hb9.mono hHeld.size); (try dsimp only))
        refine hK.out _ _ (by (try dsimp only); (exact hk9)) ?_
        clear hHeld hK; intro hHeld
        refine wpAnyH_done (by kernel_rfl) ?_ _
        clear hHeld
        refine NoPanic.normal ?_
        have hb10 := HBW.out.trans (hk9.mono HBW.out.size)
        have HB10 := hidep hb10
        have hrow10 := HROW.out.of_block (hb10.block g HROW.out.lt)
        have HR10 := hidep hrow10
        have hck : ¬ c = k := by omega
        have hkc : (k : Int) <= (c : Int) := by omega
        have hkn2 : (k : Int) <= (n : Int) := by omega
        have hnc2 : (n : Int) <= (c : Int) := by omega
        obtain ⟨m, hm⟩ : ∃ m, m = n - k := ⟨_, rfl⟩
        obtain ⟨d, hd⟩ : ∃ d, d = c - k := ⟨_, rfl⟩
        have HM := hidep (And.intro hm hd)
        clear hk9 hb10 hrow10 HSEE HQ
        go_upto_region 9 with (fail)
        rw [<- HM.out.1, <- HM.out.2]
        clear hm hd
        refine wp_loop (LoopI 66 (fun tm ds wr => (slot tm 0) = .slice (some ⟨g, 0, none⟩) n c /\ (slot tm 1) = .func (.func 110) #[] #[] /\ (slot tm 6) = .slice (some ⟨g, k, none⟩) m d /\ ds = [] /\ VCb L g us k w (slot tm 5) (slot tm 7) wr)) (fun a' wr => m - natI (a'.tmps.getD 7 undef)) ?ilStart ?ilRound
        case' ilStart => refine LoopI.mk rfl ?_
        case' ilRound => (rintro ⟨t, ds⟩ wr ⟨hts, hrel⟩; dsimp only at hts hrel; rw [zqdd t ds hts])
        case ilStart => exact ⟨rfl, rfl, rfl, rfl, 1, List.range k, us, Nat.le_refl _, by rw [<- HN.out]; omega, by rw [List.length_range]; rfl, rfl, HST.out, HR10.out, Turned.of_below HB10.out⟩
        obtain ⟨e0, e1, e6, hds, j, js, R, hj1, hjn, e5, e7, hst, hr, hT⟩ := hrel
        subst hds
        rw [e0, e1, e6, e5, e7]
        clear e0 e1 e6 e5 e7 hts HR10 HB10 HST
        rw [<- HN.out] at hjn
        have HT := hidep (And.intro hst (And.intro hr hT))
        have hmn : m = n - k := HM.out.1
        obtain ⟨jl, hjl⟩ : ∃ x, x = js.length := ⟨_, rfl⟩
        have HJL := hidep hjl
        have hjlq : jl < k + j := by rw [hjl]; exact hst.lt
        rw [<- hjl]
        clear hst hr hT hjl
        by_cases hjm : j < m
        · have hji : (j : Int) < (m : Int) := by omega
          have hj0 : (0 : Int) <= (j : Int) := by omega
          have hwj : IntKind.i64.wrap ((j : Int) - 1) = ((j - 1 : Nat) : Int) := by rw [IntWalk.i64_in _ (by omega)]; omega
          have hwj1 : IntKind.i64.wrap ((j : Int) + 1) = (j : Int) + 1 := IntWalk.i64_in _ (by omega)
          have hj1i : ((j - 1 : Nat) : Int) < (m : Int) := by omega
          have hj1j : (0 : Int) <= ((j - 1 : Nat) : Int) := by omega
          have hwl : IntKind.i64.wrap ((jl : Int) + 1) = (jl : Int) + 1 := IntWalk.i64_in _ (by omega)
          have hjln : (jl : Int) < (n : Int) := by omega
          have hjl0 : (0 : Int) <= (jl : Int) := by omega
          have hqu : k + j < us.length := by rw [<- HN.out]; omega
          have hqv : k + (j - 1) < us.length := by omega
          have hqL : k + j < L.length := by rw [<- HL.out]; exact hqu
          obtain ⟨x, hx⟩ : ∃ x, x = us[k + j] := ⟨_, rfl⟩
          obtain ⟨y, hy⟩ : ∃ y, y = us[k + (j - 1)] := ⟨_, rfl⟩
          have hsx := HS.out wr HT.out.2.2 (k + j) hqu hqL
          have hsy := HS.out wr HT.out.2.2 (k + (j - 1)) hqv (by omega)
          rw [<- hx] at hsx
          rw [<- hy] at hsy
          obtain ⟨xa, xc, hxv, -, -⟩ := hsx.form
          obtain ⟨ya, yc, hyv, -, -⟩ := hsy.form
          have HXY := hidep (And.intro hx hy)
          rw [hxv] at hsx
          rw [hyv] at hsy
          have HQ := hidep (fun (Z : World) (hZ : Below wr.heap.size wr Z) => texts2_any _ _ _ _ Z (hsx.below hZ) (hsy.below hZ))
          have HSEE := hidep (fun (Z : World) (hZ : Below wr.heap.size wr Z) => by
            have h0 := HT.out.2.1.of_block (hZ.block g HT.out.2.1.lt)
            have h1 := h0.cell (HT.out.1.get (j := k + j) (by omega) hqu)
            have h2 := h0.cell (HT.out.1.get (j := k + (j - 1)) (by omega) hqv)
            rw [<- HXY.out.1, hxv] at h1
            rw [<- HXY.out.2, hyv] at h2
            exact And.intro h1 h2)
          obtain ⟨eb, heb⟩ : ∃ e, e = decide (L[k + j] = L[k + (j - 1)]) := ⟨_, rfl⟩
          rw [<- heb] at HQ
          have HEB := hidep (show eb = decide (L.getD (k + j) [] = L.getD (k + j - 1) []) from by rw [heb, zq45 L [] hqL, zq45 L [] (by omega)]; congr 3; omega)
          obtain ⟨xl, hxl⟩ : ∃ x, x = L[k + j].length := ⟨_, rfl⟩
          obtain ⟨yl, hyl⟩ : ∃ x, x = L[k + (j - 1)].length := ⟨_, rfl⟩
          rw [<- hxl] at hxv HSEE HQ
          rw [<- hyl] at hyv HSEE HQ
          have HKU2 := hidep (And.intro hqu hqL)
          have HXV := hidep hxv
          clear hx hy hsx hsy heb hxl hyl hxv hyv
          obtain ⟨wi, hwi⟩ : ∃ wi : World, wi = wr := ⟨_, rfl⟩
          rw [<- hwi] at HSEE HQ HT ⊢
          clear hwi hmn
          go_upto_region 11 with (fail)
          cases eb with
          | true =>
            refine wp_region_noPanic (wp_region_held_drew (S := (fun Z => Below wi.heap.size wi Z)) (by kernel_rfl) ?hSz4 (fun hHeld => ?hRz4))
            case hSz4 => ((try dsimp only); (exact (Below.refl _ _).drew))
            refine tkC 0 rfl ?_
            refine tkC 1 rfl ?_
            refine tkC 2 rfl ?_
            refine tkC 3 rfl ?_
            refine tkB 4 rfl (.inl ⟨by kernel_rfl, fun w hSw => by (obtain ⟨hx, hy⟩ := HSEE.out _ hSw); go_simp; first | done | with_reducible rfl⟩) ?_
            refine tkC 5 rfl ?_
            refine tkC 6 rfl ?_
            refine tkC 7 rfl ?_
            refine tkC 8 rfl ?_
            refine tkB 9 rfl (.inl ⟨by kernel_rfl, fun w hSw => by (obtain ⟨hx, hy⟩ := HSEE.out _ hSw); go_simp; first | done | with_reducible rfl⟩) ?_
            refine wpAnyH_ready (rs := [10]) (by kernel_rfl) (by simp) (AllReadyH.cons rfl (fun K hK => ?hcz5) AllReadyH.nil)
            go_simp
            (go_at_call 110; refine (HQ.out _ hHeld).mono ?_; rintro e' w9 ⟨rfl, hb9⟩; have hk9 := hHeld.trans (hb9.mono hHeld.size); (try dsimp only))
            refine hK.out _ _ (by (try dsimp only); (exact hk9)) ?_
            clear hHeld hK; intro hHeld
            refine tkC 11 rfl ?_
            refine wpAnyH_done (by kernel_rfl) ?_ _
            clear hHeld
            refine NoPanic.normal ?_
            have HE2 := hidep (HT.out.1.skip HL.out HKU2.out.1 (of_decide_eq_true HEB.out.symm))
            have HR2 := hidep (HT.out.2.1.of_block (hk9.block g HT.out.2.1.lt))
            have HT2 := hidep (HT.out.2.2.below hk9)
            go_wp2
            refine ⟨LoopI.mk rfl ⟨rfl, rfl, rfl, rfl, j + 1, js, R, by omega, by omega, by rw [HJL.out]; rfl, by show Value.int _ _ = _; go_num, HE2.out, HR2.out, HT2.out⟩, ?_⟩
            show m - _ < m - _
            simp [natI]; omega
          | false =>
            refine wp_region_noPanic (wp_region_held_drew (S := (fun Z => Below wi.heap.size wi Z)) (by kernel_rfl) ?hSz6 (fun hHeld => ?hRz6))
            case hSz6 => ((try dsimp only); (exact (Below.refl _ _).drew))
            refine tkC 0 rfl ?_
            refine tkC 1 rfl ?_
            refine tkC 2 rfl ?_
            refine tkC 3 rfl ?_
            refine tkB 4 rfl (.inl ⟨by kernel_rfl, fun w hSw => by (obtain ⟨hx, hy⟩ := HSEE.out _ hSw); go_simp; first | done | with_reducible rfl⟩) ?_
            refine tkC 5 rfl ?_
            refine tkC 6 rfl ?_
            refine tkC 7 rfl ?_
            refine tkC 8 rfl ?_
            refine tkB 9 rfl (.inl ⟨by kernel_rfl, fun w hSw => by (obtain ⟨hx, hy⟩ := HSEE.out _ hSw); go_simp; first | done | with_reducible rfl⟩) ?_
            refine wpAnyH_ready (rs := [10]) (by kernel_rfl) (by simp) (AllReadyH.cons rfl (fun K hK => ?hcz7) AllReadyH.nil)
            go_simp
            (go_at_call 110; refine (HQ.out _ hHeld).mono ?_; rintro e' w9 ⟨rfl, hb9⟩; have hk9 := hHeld.trans (hb9.mono hHeld.size); (try dsimp only))
            refine hK.out _ _ (by (try dsimp only); (exact hk9)) ?_
            clear hHeld hK; intro hHeld
            refine tkC 11 rfl ?_
            refine wpAnyH_done (by kernel_rfl) ?_ _
            clear hHeld
            refine NoPanic.normal ?_
            have HE2 := hidep (HT.out.1.keep HL.out HKU2.out.1 (of_decide_eq_false HEB.out.symm))
            have hr9 := HT.out.2.1.of_block (hk9.block g HT.out.2.1.lt)
            have HR9 := hidep hr9
            have HT2 := hidep (HT.out.2.2.below hk9)
            have hx9 := (HSEE.out _ hk9).1
            have hjlR : jl < R.length := by rw [HT.out.1.len, <- HN.out]; omega
            obtain ⟨rj, hrj⟩ : ∃ x, x = R[jl] := ⟨_, rfl⟩
            have hc9 := hr9.cell (List.getElem?_eq_getElem hjlR)
            rw [<- hrj] at hc9
            have hf9 := hr9.free jl
            have HJR := hidep hjlR
            clear hrj
            clear hr9 hk9 hjlR
            go_wp2
            refine ⟨LoopI.mk rfl ⟨rfl, rfl, rfl, rfl, j + 1, js ++ [k + j], _, by omega, by omega, by rw [List.length_append, List.length_singleton, <- HJL.out]; show Value.int _ _ = _; go_num, by show Value.int _ _ = _; go_num, HE2.out, ?_, HT2.out.setCell _ _ (.inr rfl)⟩, ?_⟩
            · rw [<- HJL.out, <- HXY.out.1, HXV.out]
              exact HR9.out.setCell HJR.out _
            show m - _ < m - _
            simp [natI]; omega
        · have hje : k + j = n := by omega
          have hjm2 : ¬ (j : Int) < (m : Int) := by omega
          have hjln : jl < n := by omega
          have hcjl : ¬ c = jl := by omega
          have hj1' : (jl : Int) <= (n : Int) := by omega
          have hj2' : (jl : Int) <= (c : Int) := by omega
          have hj3' : (0 : Int) <= (jl : Int) := by omega
          have hRl : R.length = n := by rw [HT.out.1.len, HN.out]
          have hcl : ∀ ty, (Builtin.clear_ #[42] ty #[.slice (some ⟨g, jl, none⟩) (n - jl) (c - jl)]).run Tryz.prog wr = .ok (.tuple #[]) (wr.setCells g jl (Builtin.zeroCells #[.slice none 0 0] (n - jl)).toList) := fun ty =>
            run_clear_symss wr ty g jl (n - jl) (c - jl) (by omega) (fun q hq => by rw [HT.out.2.1.cell (List.getElem?_eq_getElem (by omega : jl + q < R.length))]; rfl) (fun q _ => HT.out.2.1.free _)
          have hdone := HT.out.1.done HL.out (by rw [hje, HN.out])
          have HE := hidep hdone
          have hrow3 : RowAt wr g 31 (R.take jl) := by
            obtain ⟨cur, h1, h2⟩ := HT.out.2.1
            refine ⟨cur, h1, fun q u hu => h2 q u ?_⟩
            rw [List.getElem?_take] at hu
            split at hu
            · exact hu
            · cases hu
          have hr4 := rowAt_front hrow3 (o := jl) (by rw [List.length_take]; omega) (Builtin.zeroCells #[.slice none 0 0] (n - jl)).toList jl (Nat.le_refl _)
          have hT4 := turned_setCells (T := fun b => b = g) (b := g) rfl (Builtin.zeroCells #[.slice none 0 0] (n - jl)).toList jl wr HT.out.2.2
          have HF := hidep (And.intro hr4 hT4)
          have HJ3 := hidep hjln
          clear hRl hdone hrow3 hr4 hT4 hje hjlq hjn
          go_wp2
          go_ret
          have hcz : (compZ L).length = jl := by rw [HE.out, List.length_map, <- HJL.out]
          refine ⟨_, rfl, ⟨R.take jl, ?_, ?_, fun i h h' => ?_⟩, HF.out.2.mono (fun b _ hb => by subst hb; rfl)⟩
          · rw [hcz, List.length_take, HT.out.1.len, <- HN.out]
            have := HJ3.out
            omega
          · rw [hcz]
            exact rdRowAt HF.out.1 (by rw [List.length_take, HT.out.1.len, <- HN.out]; have := HJ3.out; omega) (by have := HJ3.out; omega) (by unfold maxLen; omega)
          · have hf := HT.out.1.fst
            rw [<- HJL.out] at hf
            rw [hcz] at h
            have hij : i < js.length := by rw [<- HJL.out]; exact h
            have hix := HT.out.1.ix _ (List.getElem_mem hij)
            have e1 : (R.take jl)[i] = us[js[i]] := by
              have : (R.take jl)[i]? = (js.map fun j => us.getD j undef)[i]? := by rw [hf]
              rw [List.getElem?_eq_getElem h', List.getElem?_map, List.getElem?_eq_getElem hij] at this
              injection this with this
              exact this.trans (zq45 us undef hix)
            have e2 : (compZ L)[i]'(by rw [hcz]; exact h) = L[js[i]]'(by rw [<- HL.out]; exact hix) := by
              have : (compZ L)[i]? = (js.map fun j => L.getD j [])[i]? := by rw [HE.out]
              rw [List.getElem?_eq_getElem (by rw [hcz]; exact h), List.getElem?_map, List.getElem?_eq_getElem hij] at this
              injection this with this
              exact this.trans (zq45 L [] (by rw [<- HL.out]; exact hix))
            rw [e1, e2]
            exact HS.out _ HF.out.2 _ hix _
    · have hki : ¬ (k : Int) < (n : Int) := by omega
      have HE := hidep (show compZ L = L from by
        have hkL : k = L.length := by rw [<- HL.out, <- HN.out]; omega
        rw [HGOT.out, hkL, cptL_end, List.append_nil, List.take_length])
      have HR := hidep (show SymssAt wr (.slice (some ⟨g, 0, none⟩) n c) L from by
        have h0 := HROW.out.of_block (HBW.out.block g HROW.out.lt)
        refine ⟨us, HL.out, ?_, fun i h h' => HS.out wr (Turned.of_below HBW.out) i h' h⟩
        rw [<- HL.out, <- HN.out]
        exact rdRowAt h0 (by rw [<- HN.out, Nat.mul_one]) hnc (by unfold maxLen; omega))
      go_wp2
      go_ret
      exact ⟨_, rfl, by rw [HE.out]; exact HR.out, Turned.of_below HBW.out⟩
end Go.Proofs.YtcfjepcflanjbaaGreat
