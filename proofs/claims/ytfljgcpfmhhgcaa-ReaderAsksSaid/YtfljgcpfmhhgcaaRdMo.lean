/- The maker of examinations: questions (printed by genq.py out of XRdMo.src). -/
import Derived.Test.YtfljgcpfmhhgcaaRdMk
import Derived.Test.YtfljgcpfmhhgcaaRdMn
namespace Go.Proofs.Ytfljgcpfmhhgcaa
open Go.RowKit Go.Lab
attribute [local go_sem] Oper.semAt_some
set_option maxRecDepth 100000
theorem range_map82 (f : Nat → Value) : (List.range 82).map f = [f 0, f 1, f 2, f 3, f 4, f 5, f 6, f 7, f 8, f 9, f 10, f 11, f 12, f 13, f 14, f 15, f 16, f 17, f 18, f 19, f 20, f 21, f 22, f 23, f 24, f 25, f 26, f 27, f 28, f 29, f 30, f 31, f 32, f 33, f 34, f 35, f 36, f 37, f 38, f 39, f 40, f 41, f 42, f 43, f 44, f 45, f 46, f 47, f 48, f 49, f 50, f 51, f 52, f 53, f 54, f 55, f 56, f 57, f 58, f 59, f 60, f 61, f 62, f 63, f 64, f 65, f 66, f 67, f 68, f 69, f 70, f 71, f 72, f 73, f 74, f 75, f 76, f 77, f 78, f 79, f 80, f 81] := rfl
theorem frame82 (t : Array Value) (ds : List Deferred) (h : t.size = 82) : ({ tmps := t, defers := ds } : Act) = { tmps := #[slot t 0, slot t 1, slot t 2, slot t 3, slot t 4, slot t 5, slot t 6, slot t 7, slot t 8, slot t 9, slot t 10, slot t 11, slot t 12, slot t 13, slot t 14, slot t 15, slot t 16, slot t 17, slot t 18, slot t 19, slot t 20, slot t 21, slot t 22, slot t 23, slot t 24, slot t 25, slot t 26, slot t 27, slot t 28, slot t 29, slot t 30, slot t 31, slot t 32, slot t 33, slot t 34, slot t 35, slot t 36, slot t 37, slot t 38, slot t 39, slot t 40, slot t 41, slot t 42, slot t 43, slot t 44, slot t 45, slot t 46, slot t 47, slot t 48, slot t 49, slot t 50, slot t 51, slot t 52, slot t 53, slot t 54, slot t 55, slot t 56, slot t 57, slot t 58, slot t 59, slot t 60, slot t 61, slot t 62, slot t 63, slot t 64, slot t 65, slot t 66, slot t 67, slot t 68, slot t 69, slot t 70, slot t 71, slot t 72, slot t 73, slot t 74, slot t 75, slot t 76, slot t 77, slot t 78, slot t 79, slot t 80, slot t 81], defers := ds } := by
  have e : t = ((List.range 82).map (slot t)).toArray := by
    apply Array.ext
    · simp [h]
    · intro i h1 h2
      simp [slot, Array.getD, h1]
  rw [range_map82] at e
  exact congrArg (fun x => ({ tmps := x, defers := ds } : Act)) e
theorem quest_cells {w : World} {b : Nat} {x0 x1 x2 x3 x4 x5 x6 : Value} {t : TypeId} {fz : Nat × Nat} (h : w.heap[b]? = some (.cells #[x0, x1, x2, x3, x4, x5, x6] t fz)) :
    w.cell? ⟨b, 0, none⟩ = some x0 ∧ w.cell? ⟨b, 1, none⟩ = some x1 ∧ w.cell? ⟨b, 2, none⟩ = some x2 ∧ w.cell? ⟨b, 3, none⟩ = some x3 ∧ w.cell? ⟨b, 4, none⟩ = some x4 ∧ w.cell? ⟨b, 5, none⟩ = some x5 ∧ w.cell? ⟨b, 6, none⟩ = some x6 := by
  simp [World.cell?, h]
/-- The cells of a question. -/
def questC (k p : Int) (s : ByteArray) (a1 a2 na a6 : Value) : Array Value := #[.int .i64 k, a1, a2, na, .string s, .int .i64 p, a6]
/-- Two rows that do not lie in one block. -/
def Sep (u v : Value) : Prop := ∀ g, u.ownBlock = some g → v.ownBlock = some g → False
theorem Sep.symm {u v : Value} (h : Sep u v) : Sep v u := fun g h1 h2 => h g h2 h1
theorem Sep.kept {u v : Value} {W W' : World} {B k n : Nat} {e : TypeId} {ys : List Value} (h : Sep u v) (hv : W.ownsRow B e k v n ys) (hg : W.grownBy W' u.ownBlock) : W'.ownsRow B e k v n ys := by
  refine hv.kept hg ?_
  cases hb : v.ownBlock with
  | none => exact .inl rfl
  | some g => exact .inr (fun e => h g e.symm hb)
theorem Sep.grown {u u' v : Value} {W : World} {B k n : Nat} {e : TypeId} {ys : List Value} (h : Sep u v) (hat : u'.ownBlock = u.ownBlock ∨ u'.ownBlock = some W.heap.size) (hv : W.ownsRow B e k v n ys) : Sep u' v := fun g h1 h2 => by
  rcases hat with e | e
  · exact h g (e ▸ h1) h2
  · rw [e] at h1
    injection h1 with h1
    have := (hv.lt g h2).2
    omega
/-- The loop of the needed facts. -/
def NeedI (P : Nat) (la : Option Addr) (lc : Nat) (l : List Int) (w X0 : World) (B4 B5 n : Nat) (k p : Int) (rs : Value) (s6 : Value) (wr : World) : Prop :=
  ∃ (i : Nat) (L : List Int) (nv : Value), i ≤ n ∧ s6 = .int .i64 (i : Nat) ∧ L.length ≤ i ∧ (∀ x ∈ L, 0 ≤ x ∧ x ≤ 1000) ∧ wr.ownsRow X0.heap.size 3 1 nv L.length (intsC L) ∧ wr.heap[B5]? = some (.cells (questC k p ⟨#[]⟩ rs (.slice none 0 0) nv (.slice none 0 0)) 113) ∧ wr.heap[B4]? = some (.cells (questC 0 0 ⟨#[]⟩ (.slice none 0 0) (.slice none 0 0) (.slice none 0 0) (.slice none 0 0)) 113) ∧ X0.heap.size ≤ wr.heap.size ∧ MkR P la lc l w wr
/-- The loop of the options. -/
def OptI (P : Nat) (la : Option Addr) (lc : Nat) (l : List Int) (w X2 : World) (B4 B5 : Nat) (k p : Int) (rs nv : Value) (m : Nat) (s8 : Value) (wr : World) : Prop :=
  ∃ (j : Nat) (ov rv : Value) (xs ys : List Value), j ≤ m ∧ s8 = .int .i64 (j : Nat) ∧ wr.ownsRow X2.heap.size 9 1 ov j xs ∧ wr.ownsRow X2.heap.size 9 1 rv j ys ∧ Sep ov rv ∧ wr.heap[B5]? = some (.cells (questC k p ⟨#[]⟩ rs ov nv rv) 113) ∧ wr.heap[B4]? = some (.cells (questC 0 0 ⟨#[]⟩ (.slice none 0 0) (.slice none 0 0) (.slice none 0 0) (.slice none 0 0)) 113) ∧ MkR P la lc l w wr ∧ Turned (fun b => b = P ∨ b = B5) X2 wr
def OptM (P : Nat) (la : Option Addr) (lc : Nat) (l : List Int) (w X2 : World) (B4 B5 : Nat) (k p : Int) (rs nv : Value) (m j no nr : Nat) (a : Act) (W : World) : Prop :=
  a.tmps.size = 82 ∧ a.defers = [] ∧ slot a.tmps 0 = .pointer (some ⟨P, 0, none⟩) ∧ slot a.tmps 4 = .pointer (some ⟨B4, 0, none⟩) ∧ slot a.tmps 5 = .pointer (some ⟨B5, 0, none⟩) ∧ slot a.tmps 7 = .int .i64 (m : Nat) ∧ slot a.tmps 8 = .int .i64 (j : Nat) ∧
    ∃ (ov rv : Value) (xs ys : List Value), W.ownsRow X2.heap.size 9 1 ov no xs ∧ W.ownsRow X2.heap.size 9 1 rv nr ys ∧ Sep ov rv ∧ W.heap[B5]? = some (.cells (questC k p ⟨#[]⟩ rs ov nv rv) 113) ∧ W.heap[B4]? = some (.cells (questC 0 0 ⟨#[]⟩ (.slice none 0 0) (.slice none 0 0) (.slice none 0 0) (.slice none 0 0)) 113) ∧ MkR P la lc l w W ∧ Turned (fun b => b = P ∨ b = B5) X2 W
/-- What holds behind the choice of the kind. -/
def QuM (P : Nat) (la : Option Addr) (lc : Nat) (l : List Int) (w X0 : World) (B4 B5 : Nat) (nv : Value) (L : List Int) (a : Act) (W : World) : Prop :=
  a.tmps.size = 82 ∧ a.defers = [] ∧ slot a.tmps 4 = .pointer (some ⟨B4, 0, none⟩) ∧ slot a.tmps 5 = .pointer (some ⟨B5, 0, none⟩) ∧ W.heap[B4]? = some (.cells (questC 0 0 ⟨#[]⟩ (.slice none 0 0) (.slice none 0 0) (.slice none 0 0) (.slice none 0 0)) 113) ∧ MkR P la lc l w W ∧ W.ownsRow X0.heap.size 3 1 nv L.length (intsC L) ∧
    ∃ (k p : Int) (s : ByteArray) (a1 a2 a6 : Option Addr) (n1 c1 n2 c2 n6 c6 : Nat), W.heap[B5]? = some (.cells (questC k p s (.slice a1 n1 c1) (.slice a2 n2 c2) nv (.slice a6 n6 c6)) 113)
/-- What Question hands back. -/
def QuestV (w : World) (n : Nat) (v : Value) : Prop := ∃ (k p : Int) (s : ByteArray) (a1 a2 na a6 : Option Addr) (n1 c1 n2 c2 nc n6 c6 : Nat) (L : List Int), v = .agg (questC k p s (.slice a1 n1 c1) (.slice a2 n2 c2) (.slice na L.length nc) (.slice a6 n6 c6)) ∧ L.length ≤ n ∧ IntsOf (fun t => t = 3) w (.slice na L.length nc) L
set_option maxHeartbeats 100000000 in
theorem questM_any {P : Nat} {la : Option Addr} {lc : Nat} {l : List Int} (n : Nat) (hn : n ≤ 1000) (w : World) (h : Mk P la lc l w) :
    Calls Try.prog 56 #[.pointer (some ⟨P, 0, none⟩), .int .i64 (n : Nat)] w fun e w' => (∃ v, e = .returned v ∧ QuestV w' n v) ∧ MkR P la lc l w w' := by
  have HM := hidep h
  have HTW := hidep (fun n X (hX : MkR P la lc l w X) => takeM_any n X (hX.mk h))
  have HPH := hidep (fun X (hX : MkR P la lc l w X) => phrase_any X (hX.mk h))
  have hr0 := MkR.refl h
  have hP := h.lt
  clear h
  go_enter Try.func56, Try.ntmps56
  go_upto_region 1 with (fail)
  refine wp_abs (fun X => X.heap[w.heap.size]? = some (.cells (questC 0 0 ⟨#[]⟩ (.slice none 0 0) (.slice none 0 0) (.slice none 0 0) (.slice none 0 0)) 113) ∧ MkR P la lc l w X) ⟨heap_alloc_new _ _, hr0.alloc _⟩ ?_
  rintro X ⟨hq4, hrX⟩
  obtain ⟨B4, hB4⟩ : ∃ B4, B4 = w.heap.size := ⟨_, rfl⟩
  rw [← hB4] at hq4 ⊢
  have HB4 := hidep (show w.heap.size ≤ B4 from by omega)
  have hB4P : B4 ≠ P := by omega
  clear hB4 hr0
  go_upto_region 2 with (first
    | (go_at_call 52; first | ((with_reducible refine (HTW.out _ _ hrX).mono ?_); rintro e wa ⟨⟨k, rfl, _, _, _⟩, hra⟩; have hq4 := hra.box hq4 hB4P; have hra := hrX.trans hra) | (refine (HTW.out _ _ hrb).mono ?_; rintro e wc ⟨⟨p, rfl, _, _, _⟩, hrc⟩; have hq4 := hrc.box hq4 hB4P; have hrc := hrb.trans hrc))
    | (go_at_call 68; refine (runs_any _ (hra.mk HM.out)).mono ?_; rintro e wb ⟨⟨ra, rn, rc, rfl⟩, hrb⟩; have hq4 := hrb.box hq4 hB4P; have hrb := hra.trans hrb)
    | fail)
  refine wp_abs (fun X => X.heap[wc.heap.size]? = some (.cells (questC k p ⟨#[]⟩ (.slice ra rn rc) (.slice none 0 0) (.slice none 0 0) (.slice none 0 0)) 113) ∧ X.heap[B4]? = some (.cells (questC 0 0 ⟨#[]⟩ (.slice none 0 0) (.slice none 0 0) (.slice none 0 0) (.slice none 0 0)) 113) ∧ MkR P la lc l w X) ⟨heap_alloc_new _ _, below_push ((Below.refl _ _).alloc (Nat.le_refl _) _) hq4, hrc.alloc _⟩ ?_
  have hlt4 := lt_of_block hq4
  have hsc := hrc.size
  obtain ⟨B5, hB5⟩ : ∃ B5, B5 = wc.heap.size := ⟨_, rfl⟩
  rw [← hB5]
  have HBB := hidep (show w.heap.size ≤ B4 ∧ w.heap.size ≤ B5 ∧ B5 ≠ B4 from by have := HB4.out; omega)
  have hB5P : B5 ≠ P := by omega
  clear hB5 hsc hlt4 hq4 hrc hrb hra hrX
  rintro X0 ⟨hq5, hq4, hrX0⟩
  have hsX0 := hrX0.size
  have HBL := hidep (show B4 < X0.heap.size ∧ B5 < X0.heap.size from ⟨lt_of_block hq4, lt_of_block hq5⟩)
  go_upto_region 3 with (fail)
  refine wp_loop (LoopI 82 (fun tm ds wr => (slot tm 0) = .pointer (some ⟨P, 0, none⟩) ∧ (slot tm 1) = .int .i64 (n : Nat) ∧ (slot tm 4) = .pointer (some ⟨B4, 0, none⟩) ∧ (slot tm 5) = .pointer (some ⟨B5, 0, none⟩) ∧ ds = [] ∧ NeedI P la lc l w X0 B4 B5 n k p (.slice ra rn rc) (slot tm 6) wr)) (fun a' wr => n - (intOf (a'.tmps.getD 6 undef)).toNat) ?needsStart ?needsRound
  case' needsStart => refine LoopI.mk rfl ?_
  case' needsRound => (rintro ⟨t, ds⟩ wr ⟨hts, hrel⟩; dsimp only at hts hrel; rw [frame82 t ds hts])
  case needsStart => exact ⟨rfl, rfl, rfl, rfl, rfl, 0, [], .slice none 0 0, Nat.zero_le _, rfl, Nat.le_refl _, by simp, World.ownsRow_nil _ _ _ _, hq5, hq4, Nat.le_refl _, hrX0⟩
  clear hq5 hq4 hrX0
  obtain ⟨h0, h1, h4, h5, hds, i, L, nv, hi, h6, hL, hLr, hown, hq5, hq4, hsz, hrw⟩ := hrel
  subst hds
  obtain ⟨na, nc, rfl, _, _⟩ := (Rd.of_own hown).form
  rw [h0, h1, h4, h5, h6]
  clear h0 h1 h4 h5 h6 hts
  by_cases hlt : i < n
  · have hlti : (i : Int) < (n : Int) := by omega
    have hDec : ∀ z : Int, (z == 0) = true ∨ (z == 0) = false := fun z => by cases (z == 0) <;> simp
    go_upto_if 23 with (first
      | (go_at_call 52; refine (HTW.out _ _ hrw).mono ?_; rintro e w3 ⟨⟨z, rfl, _, _, _⟩, hr3⟩; have hq5 := hr3.box hq5 hB5P; have hq4 := hr3.box hq4 hB4P; have hown := hr3.row hown (by omega); have hsz : X0.heap.size ≤ w3.heap.size := Nat.le_trans hsz hr3.size; have hr3 := hrw.trans hr3)
      | fail)
    clear hrw
    rcases hDec z with hz | hz
    · obtain ⟨y0, y1, y2, y3, y4, y5, y6⟩ := quest_cells hq5
      have hBL := HBL.out
      clear hDec
      go_wp2_with (first
        | (at_builtin; refine wpList_append_rd _ rfl (.tmp 25) (.tmp 27) rfl slIntsR X0.heap.size _ _ _ rfl (ownsRow_turned hown (Turned.of_below (T := fun _ => False) ((Below.refl _ _).alloc (Nat.le_refl _) _)) (fun _ _ h => h)) _ _ _ _ rfl (Rd.fresh w3 #[.int .i64 (i : Nat)] 3 1 1 rfl (by decide)) (by intro u hu; simp at hu; rw [hu]; rfl) (by unfold maxLen; omega) (by omega) (by simp; omega) ?_; intro v2 w4 hown4 hgr4 hat4 hnl4; clear hat4 hnl4; obtain ⟨va4, vc4, rfl, _, _⟩ := (Rd.of_own hown4).form; have hq5e := (hgr4.block B5 (by simp; omega) (fun e1 => by have := (hown.lt B5 e1.symm).1; omega)).trans (below_push ((Below.refl _ _).alloc (Nat.le_refl _) _) hq5); have hq4e := (hgr4.block B4 (by simp; omega) (fun e1 => by have := (hown.lt B4 e1.symm).1; omega)).trans (below_push ((Below.refl _ _).alloc (Nat.le_refl _) _) hq4); obtain ⟨y0, y1, y2, y3, y4, y5, y6⟩ := quest_cells hq5e; have fe := box_frozen hq5e 3)
        | fail)
      have hke := (hr3.alloc _).own HM.out hgr4 (fun g hg => Nat.le_trans hsX0 (hown.lt g hg).1)
      have hse := hgr4.size
      simp only [World.size_alloc] at hse
      have hlen : (L ++ [(i : Int)]).length = L.length + 1 := by simp
      refine ⟨LoopI.mk rfl ⟨rfl, rfl, rfl, rfl, rfl, i + 1, L ++ [(i : Int)], .slice va4 (L.length + 1) vc4, by omega, by show Value.int _ _ = _; go_num, by omega, fun x hx => ?_, ?_, heap_set hq5e 3 _, (Below.heap_setCell w4 ⟨B5, 3, none⟩ _ B4 HBB.out.2.2.symm).trans hq4e, by simp [World.setCell]; omega, hke.set HM.out HBB.out.2.1⟩, ?_⟩
      · rcases List.mem_append.1 hx with h | h
        · exact hLr x h
        · have : x = (i : Int) := by simpa using h
          omega
      · have hk := hown4.kept (grownBy_setC w4 B5 3 (.slice va4 (L.length + 1) vc4)) (.inr (fun e1 => by have := (hown4.lt B5 e1).1; omega))
        rw [hlen]
        have hc : intsC (L ++ [(i : Int)]) = intsC L ++ [.int .i64 (i : Nat)] := by simp [intsC]
        rw [hc]
        exact hk
      · show n - _ < n - _
        simp [intOf]; omega
    · clear hDec
      go_wp2
      refine ⟨LoopI.mk rfl ⟨rfl, rfl, rfl, rfl, rfl, i + 1, L, .slice na L.length nc, by omega, by show Value.int _ _ = _; go_num, by omega, hLr, hown, hq5, hq4, hsz, hr3⟩, ?_⟩
      show n - _ < n - _
      simp [intOf]; omega
  · have hlti : ¬ (i : Int) < (n : Int) := by omega
    obtain ⟨y0, y1, y2, y3, y4, y5, y6⟩ := quest_cells hq5
    go_upto_block 2 with (fail)
    clear y0 y1 y2 y3 y4 y5 y6
    have HLr := hidep hLr
    have HLL := hidep (show L.length ≤ n from by omega)
    have hP0 : P < X0.heap.size := by omega
    clear hLr hL hi hlt hlti
    refine wp_join (QuM P la lc l w X0 B4 B5 (.slice na L.length nc) L) ?kind ?_
    case kind =>
      intro K' hMK
      by_cases k0 : k = 0
      · have b0 : (k == 0) = true := by simp [k0]
        clear k0
        go_upto_region 11 with (first
          | (go_at_call 52; refine (HTW.out _ _ hrw).mono ?_; rintro e w7 ⟨⟨y, rfl, hy0, hy1, _⟩, hr7⟩; have hy3 : y < 3 := hy1 (by decide); have hq5 := hr7.box hq5 hB5P; have hq4 := hr7.box hq4 hB4P; have hown := hr7.row hown (by omega); have hsz : X0.heap.size ≤ w7.heap.size := Nat.le_trans hsz hr7.size; have hr7 := hrw.trans hr7)
          | fail)
        obtain ⟨m, hm⟩ : ∃ m : Nat, 2 + y = (m : Int) := ⟨(2 + y).toNat, by omega⟩
        have hm4 : 2 ≤ m ∧ m ≤ 4 := by omega
        rw [hm]
        clear hm hy0 hy1 hy3 hrw
        obtain ⟨X2, hX2⟩ : ∃ X2 : World, X2 = w7 := ⟨_, rfl⟩
        rw [← hX2] at hown hq5 hq4 hsz hr7 ⊢
        clear hX2
        have hsw2 := hr7.size
        have hBL2 := HBL.out
        have HTF := hidep (fun W (hT : Turned (fun b => b = P ∨ b = B5) X2 W) => ownsRow_turned hown hT (fun g hg hc => by have := (hown.lt g hg).1; rcases hc with hc | hc <;> omega))
        clear hown
        go_upto_region 12 with (fail)
        refine wp_loop (LoopI 82 (fun tm ds wr => (slot tm 0) = .pointer (some ⟨P, 0, none⟩) ∧ (slot tm 4) = .pointer (some ⟨B4, 0, none⟩) ∧ (slot tm 5) = .pointer (some ⟨B5, 0, none⟩) ∧ (slot tm 7) = .int .i64 (m : Nat) ∧ ds = [] ∧ OptI P la lc l w X2 B4 B5 k p (.slice ra rn rc) (.slice na L.length nc) m (slot tm 8) wr)) (fun a' wr => m - (intOf (a'.tmps.getD 8 undef)).toNat) ?optsStart ?optsRound
        case' optsStart => refine LoopI.mk rfl ?_
        case' optsRound => (rintro ⟨t, ds⟩ wr ⟨hts, hrel⟩; dsimp only at hts hrel; rw [frame82 t ds hts])
        case optsStart => exact ⟨rfl, rfl, rfl, rfl, rfl, 0, .slice none 0 0, .slice none 0 0, [], [], Nat.zero_le _, rfl, World.ownsRow_nil _ _ _ _, World.ownsRow_nil _ _ _ _, (fun g h1 _ => by cases h1), hq5, hq4, hr7, Turned.refl _ _⟩
        clear hq5 hq4 hr7
        obtain ⟨h0, h4, h5, h7, hds, j, ov, rv, xs, ys, hj, h8, how, hrr, hsep, hq5, hq4, hrw, hTq⟩ := hrel
        subst hds
        obtain ⟨oa, oc, rfl, _, _⟩ := (Rd.of_own how).form
        obtain ⟨pa, pc, rfl, _, _⟩ := (Rd.of_own hrr).form
        rw [h0, h4, h5, h7, h8]
        clear h0 h4 h5 h7 h8 hts
        by_cases hjm : j < m
        · have hjmi : (j : Int) < (m : Int) := by omega
          go_upto_block 4 with (fail)
          refine wp_join (OptM P la lc l w X2 B4 B5 k p (.slice ra rn rc) (.slice na L.length nc) m j (j + 1) (j + 1)) ?blk ?_
          case blk =>
            intro K2 hM2
            go_upto_region 14 with (fail)
            refine wp_join (OptM P la lc l w X2 B4 B5 k p (.slice ra rn rc) (.slice na L.length nc) m j (j + 1) j) ?opt ?_
            case opt =>
              intro K3 hM3
              obtain ⟨y0, y1, y2, y3, y4, y5, y6⟩ := quest_cells hq5
              refine wp_region_noPanic (wp_region_held_drew (S := (fun Y => MkR P la lc l w Y ∧ Turned (fun b => b = P ∨ b = B5) X2 Y)) (by kernel_rfl) ?hSA (fun hHeld => ?hRA))
              case hSA => ((try dsimp only); (first | exact And.intro hrw hTq | exact And.intro hrw.drew hTq.drew))
              refine tkA (i := 0) (v := ?vA1) rfl (.inl ⟨by kernel_rfl, ?yA1⟩) (by assumption) ?rA1
              case yA1 => (intro w hSw; first | (go_simp; done) | (go_simp; with_reducible rfl))
              refine tkA (i := 2) (v := ?vA2) rfl (.inl ⟨by kernel_rfl, ?yA2⟩) (by assumption) ?rA2
              case yA2 => (intro w hSw; first | (go_simp; done) | (go_simp; with_reducible rfl))
              refine tkA (i := 5) (v := ?vA3) rfl (.inl ⟨by kernel_rfl, ?yA3⟩) (by assumption) ?rA3
              case yA3 => (intro w hSw; first | (go_simp; done) | (go_simp; with_reducible rfl))
              refine tkA (i := 6) (v := ?vA4) rfl (.inl ⟨by kernel_rfl, ?yA4⟩) (by assumption) ?rA4
              case yA4 => (intro w hSw; first | (go_simp; done) | (go_simp; with_reducible rfl))
              refine wpAnyH_ready (rs := [1, 3]) (by kernel_rfl) (by simp) (.cons rfl (fun K hK => ?hcA5) (.cons rfl (fun K hK => ?hcA6) .nil))
              case' hcA5 =>
               go_simp
               refine hK.out _ _ ?sA5 (fun hA5 => ?tA5)
               case sA5 => ((try dsimp only); (first | (with_reducible exact hHeld) | exact hk | exact And.intro hk.1.drew hk.2.drew))
               replace hHeld := hA5; clear hK hA5
               refine wpAnyH_ready (rs := [3]) (by kernel_rfl) (by simp) (.cons rfl (fun K hK => ?hcA7) .nil)
               go_simp
               (go_at_call 75; refine (HPH.out _ hHeld.1).mono ?_; rintro e wt ⟨⟨sP, rfl⟩, hrt⟩; have hq5 := hrt.box hq5 hB5P; have hq4 := hrt.box hq4 hB4P; have how := hrt.row how (by omega); have hrr := hrt.row hrr (by omega); have hk := And.intro (MkR.trans hHeld.1 hrt) (hHeld.2.trans (hrt.2.mono (fun _ _ h => .inl h))); obtain ⟨y0, y1, y2, y3, y4, y5, y6⟩ := quest_cells hq5; (try dsimp only))
               refine hK.out _ _ ?sA7 (fun hA7 => ?tA7)
               case sA7 => ((try dsimp only); (first | (with_reducible exact hHeld) | exact hk | exact And.intro hk.1.drew hk.2.drew))
               replace hHeld := hA7; clear hK hA7
               refine wpAnyH_ready (rs := [4, 7]) (by kernel_rfl) (by simp) (.cons rfl (fun K hK => ?hcA8) (.cons rfl (fun K hK => ?hcA9) .nil))
               case' hcA8 =>
                go_simp
                (have hgA := Nat.ne_of_gt (Nat.lt_of_lt_of_le hP (MkR.size hHeld.1)); (first | refine intro_alloc (fun XA hBX hLA => ?_) | refine intro_alloc_drew (fun XA hBX hLA => ?_)); have hq5 := below_push hBX hq5; have hq4 := below_push hBX hq4; have how := ownsRow_turned how (Turned.of_below (T := fun _ => False) hBX) (fun _ _ h => h); have hrr := ownsRow_turned hrr (Turned.of_below (T := fun _ => False) hBX) (fun _ _ h => h); have hk := And.intro (mkr_alloc (by first | exact hHeld.1 | exact undrew_mkr hHeld.1) hBX) (turned_alloc (by first | exact hHeld.2 | exact undrew_turned hHeld.2) hBX); obtain ⟨y0, y1, y2, y3, y4, y5, y6⟩ := quest_cells hq5; (first | (have hget := lit_get (p := fun v => ∃ s : ByteArray, v = .string s) hLA (by simp) (z := qn) (by simp <;> omega); obtain ⟨v, hcL, sL, rfl⟩ := hget) | skip); (try dsimp only))
                refine hK.out _ _ ?sA8 (fun hA8 => ?tA8)
                case sA8 => ((try dsimp only); (first | (with_reducible exact hHeld) | exact hk | exact And.intro hk.1.drew hk.2.drew))
                replace hHeld := hA8; clear hK hA8
                refine wpAnyH_ready (rs := [7]) (by kernel_rfl) (by simp) (.cons rfl (fun K hK => ?hcA10) .nil)
                go_simp
                (go_at_call 52; refine (HTW.out _ _ hHeld.1).mono ?_; rintro e wt ⟨⟨zt, rfl, hz0, hz1, _⟩, hrt⟩; obtain ⟨zn, rfl⟩ : ∃ zn : Nat, zt = (zn : Int) := ⟨zt.toNat, by omega⟩; have hz2 : (zn : Int) < 2 := hz1 (by decide); obtain ⟨qn, hqn, hq4'⟩ : ∃ qn : Nat, (((j : Int) + (zn : Int)) % 4) = (qn : Int) ∧ qn < 4 := ⟨(((j : Int) + (zn : Int)) % 4).toNat, by omega, by omega⟩; have hqi : (qn : Int) < 4 := (by omega); have hjz0 : (0 : Int) ≤ (j : Int) + (zn : Int) := (by omega); have hjz1 : IntKind.i64.wrap ((j : Int) + (zn : Int)) = (j : Int) + (zn : Int) := IntWalk.i64_in _ (by omega); have hqt : Int.tmod ((j : Int) + (zn : Int)) 4 = (qn : Int) := (Int.tmod_eq_emod_of_nonneg hjz0).trans hqn; have hq5 := hrt.box hq5 hB5P; have hq4 := hrt.box hq4 hB4P; have how := hrt.row how (by omega); have hrr := hrt.row hrr (by omega); have hk := And.intro (MkR.trans hHeld.1 hrt) (hHeld.2.trans (hrt.2.mono (fun _ _ h => .inl h))); obtain ⟨y0, y1, y2, y3, y4, y5, y6⟩ := quest_cells hq5; (first | (have hLA := hrt.box hLA hgA) | skip); (first | (have hget := lit_get (p := fun v => ∃ s : ByteArray, v = .string s) hLA (by simp) (z := qn) (by simp <;> omega); obtain ⟨v, hcL, sL, rfl⟩ := hget) | skip); (try dsimp only))
                refine hK.out _ _ ?sA10 (fun hA10 => ?tA10)
                case sA10 => ((try dsimp only); (first | (with_reducible exact hHeld) | exact hk | exact And.intro hk.1.drew hk.2.drew))
                replace hHeld := hA10; clear hK hA10
                refine tkA (i := 8) (v := ?vA11) rfl (.inl ⟨by kernel_rfl, ?yA11⟩) (by assumption) ?rA11
                case yA11 => (intro w hSw; first | (go_simp; done) | (go_simp; with_reducible rfl))
                refine tkA (i := 9) (v := ?vA12) rfl (.inl ⟨by kernel_rfl, ?yA12⟩) (by assumption) ?rA12
                case yA12 => (intro w hSw; first | (go_simp; done) | (go_simp; with_reducible rfl))
                refine tkA (i := 10) (v := ?vA13) rfl (.inl ⟨by kernel_rfl, ?yA13⟩) (by assumption) ?rA13
                case yA13 => (intro w hSw; first | (go_simp; done) | (go_simp; with_reducible rfl))
                refine wpAnyH_ready (rs := [11]) (by kernel_rfl) (by simp) (.cons rfl (fun K hK => ?hcA14) .nil)
                go_simp
                refine hK.out _ _ ?sA14 (fun hA14 => ?tA14)
                case sA14 => ((try dsimp only); (first | (with_reducible exact hHeld) | exact hk | exact And.intro hk.1.drew hk.2.drew))
                replace hHeld := hA14; clear hK hA14
                refine wpAnyH_ready (rs := [12]) (by kernel_rfl) (by simp) (.cons rfl (fun K hK => ?hcA15) .nil)
                go_simp
                ((first | refine intro_alloc (fun XB hBX hLB => ?_) | refine intro_alloc_drew (fun XB hBX hLB => ?_)); have hq5 := below_push hBX hq5; have hq4 := below_push hBX hq4; have how := ownsRow_turned how (Turned.of_below (T := fun _ => False) hBX) (fun _ _ h => h); have hrr := ownsRow_turned hrr (Turned.of_below (T := fun _ => False) hBX) (fun _ _ h => h); have hk := And.intro (mkr_alloc (by first | exact hHeld.1 | exact undrew_mkr hHeld.1) hBX) (turned_alloc (by first | exact hHeld.2 | exact undrew_turned hHeld.2) hBX); obtain ⟨y0, y1, y2, y3, y4, y5, y6⟩ := quest_cells hq5; (try dsimp only))
                refine hK.out _ _ ?sA15 (fun hA15 => ?tA15)
                case sA15 => ((try dsimp only); (first | (with_reducible exact hHeld) | exact hk | exact And.intro hk.1.drew hk.2.drew))
                replace hHeld := hA15; clear hK hA15
                refine wpAnyH_ready (rs := [13]) (by kernel_rfl) (by simp) (.cons rfl (fun K hK => ?hcA16) .nil)
                (refine step_append_rd _ (by rfl) (.tmp 46) (.tmp 57) (by rfl) slStrR X2.heap.size (.slice oa j oc) _ _ (by rfl) (by exact how) _ _ _ _ (by rfl) (by exact rd_lit hLB rfl) (by intro u hu; simp at hu; subst hu; rfl) (by unfold maxLen; omega) (by omega) (Turned.size hHeld.2) ?_; intro v4 w4 hown4 hgr4 hat4 hnl4; obtain ⟨va4, vc4, rfl, _, _⟩ := (Rd.of_own hown4).form; have hsep4 := Sep.grown hsep hat4 hrr; have hrr := Sep.kept hsep hrr hgr4; have hq5 := (hgr4.block B5 (lt_of_block hq5) (fun e1 => by have := (how.lt B5 e1.symm).1; omega)).trans hq5; have hq4 := (hgr4.block B4 (lt_of_block hq4) (fun e1 => by have := (how.lt B4 e1.symm).1; omega)).trans hq4; have hk := And.intro (MkR.own hHeld.1 HM.out hgr4 (fun g hg => Nat.le_trans hsw2 (how.lt g hg).1)) (Turned.own hHeld.2 hgr4 (fun g hg => (how.lt g hg).1)); have fe := box_frozen hq5 2; obtain ⟨y0, y1, y2, y3, y4, y5, y6⟩ := quest_cells hq5; (try dsimp only))
                refine hK.out _ _ ?sA16 (fun hA16 => ?tA16)
                case sA16 => ((try dsimp only); (first | (with_reducible exact hHeld) | exact hk | exact And.intro hk.1.drew hk.2.drew))
                replace hHeld := hA16; clear hK hA16
                refine tkA (i := 14) (v := ?vA17) rfl (.inl ⟨by kernel_rfl, ?yA17⟩) (by assumption) ?rA17
                case yA17 => (intro w hSw; first | (go_simp; done) | (go_simp; with_reducible rfl))
                refine wpAnyH_ready (rs := [15]) (by kernel_rfl) (by simp) (.cons rfl (fun K hK => ?hcA18) .nil)
                go_simp
                refine hK.out _ _ ?sA18 (fun hA18 => ?tA18)
                case sA18 => ((try dsimp only); (first | (with_reducible exact hHeld) | exact hk | exact And.intro hk.1.drew hk.2.drew | exact And.intro (hk.1.set HM.out HBB.out.2.1) (hk.2.setCell _ _ (.inr (.inr rfl))) | exact And.intro (hk.1.set HM.out HBB.out.2.1).drew (hk.2.setCell _ _ (.inr (.inr rfl))).drew))
                replace hHeld := hA18; clear hK hA18
                refine wpAnyH_done (by kernel_rfl) ?_ _
                clear hHeld
                refine NoPanic.normal ?_
               case' hcA9 =>
                go_simp
                (go_at_call 52; refine (HTW.out _ _ hHeld.1).mono ?_; rintro e wt ⟨⟨zt, rfl, hz0, hz1, _⟩, hrt⟩; obtain ⟨zn, rfl⟩ : ∃ zn : Nat, zt = (zn : Int) := ⟨zt.toNat, by omega⟩; have hz2 : (zn : Int) < 2 := hz1 (by decide); obtain ⟨qn, hqn, hq4'⟩ : ∃ qn : Nat, (((j : Int) + (zn : Int)) % 4) = (qn : Int) ∧ qn < 4 := ⟨(((j : Int) + (zn : Int)) % 4).toNat, by omega, by omega⟩; have hqi : (qn : Int) < 4 := (by omega); have hjz0 : (0 : Int) ≤ (j : Int) + (zn : Int) := (by omega); have hjz1 : IntKind.i64.wrap ((j : Int) + (zn : Int)) = (j : Int) + (zn : Int) := IntWalk.i64_in _ (by omega); have hqt : Int.tmod ((j : Int) + (zn : Int)) 4 = (qn : Int) := (Int.tmod_eq_emod_of_nonneg hjz0).trans hqn; have hq5 := hrt.box hq5 hB5P; have hq4 := hrt.box hq4 hB4P; have how := hrt.row how (by omega); have hrr := hrt.row hrr (by omega); have hk := And.intro (MkR.trans hHeld.1 hrt) (hHeld.2.trans (hrt.2.mono (fun _ _ h => .inl h))); obtain ⟨y0, y1, y2, y3, y4, y5, y6⟩ := quest_cells hq5; (first | (have hLA := hrt.box hLA hgA) | skip); (first | (have hget := lit_get (p := fun v => ∃ s : ByteArray, v = .string s) hLA (by simp) (z := qn) (by simp <;> omega); obtain ⟨v, hcL, sL, rfl⟩ := hget) | skip); (try dsimp only))
                refine hK.out _ _ ?sA9 (fun hA9 => ?tA9)
                case sA9 => ((try dsimp only); (first | (with_reducible exact hHeld) | exact hk | exact And.intro hk.1.drew hk.2.drew))
                replace hHeld := hA9; clear hK hA9
                refine tkA (i := 8) (v := ?vA19) rfl (.inl ⟨by kernel_rfl, ?yA19⟩) (by assumption) ?rA19
                case yA19 => (intro w hSw; first | (go_simp; done) | (go_simp; with_reducible rfl))
                refine tkA (i := 9) (v := ?vA20) rfl (.inl ⟨by kernel_rfl, ?yA20⟩) (by assumption) ?rA20
                case yA20 => (intro w hSw; first | (go_simp; done) | (go_simp; with_reducible rfl))
                refine wpAnyH_ready (rs := [4]) (by kernel_rfl) (by simp) (.cons rfl (fun K hK => ?hcA21) .nil)
                go_simp
                (have hgA := Nat.ne_of_gt (Nat.lt_of_lt_of_le hP (MkR.size hHeld.1)); (first | refine intro_alloc (fun XA hBX hLA => ?_) | refine intro_alloc_drew (fun XA hBX hLA => ?_)); have hq5 := below_push hBX hq5; have hq4 := below_push hBX hq4; have how := ownsRow_turned how (Turned.of_below (T := fun _ => False) hBX) (fun _ _ h => h); have hrr := ownsRow_turned hrr (Turned.of_below (T := fun _ => False) hBX) (fun _ _ h => h); have hk := And.intro (mkr_alloc (by first | exact hHeld.1 | exact undrew_mkr hHeld.1) hBX) (turned_alloc (by first | exact hHeld.2 | exact undrew_turned hHeld.2) hBX); obtain ⟨y0, y1, y2, y3, y4, y5, y6⟩ := quest_cells hq5; (first | (have hget := lit_get (p := fun v => ∃ s : ByteArray, v = .string s) hLA (by simp) (z := qn) (by simp <;> omega); obtain ⟨v, hcL, sL, rfl⟩ := hget) | skip); (try dsimp only))
                refine hK.out _ _ ?sA21 (fun hA21 => ?tA21)
                case sA21 => ((try dsimp only); (first | (with_reducible exact hHeld) | exact hk | exact And.intro hk.1.drew hk.2.drew))
                replace hHeld := hA21; clear hK hA21
                refine tkA (i := 10) (v := ?vA22) rfl (.inl ⟨by kernel_rfl, ?yA22⟩) (by assumption) ?rA22
                case yA22 => (intro w hSw; first | (go_simp; done) | (go_simp; with_reducible rfl))
                refine wpAnyH_ready (rs := [11]) (by kernel_rfl) (by simp) (.cons rfl (fun K hK => ?hcA23) .nil)
                go_simp
                refine hK.out _ _ ?sA23 (fun hA23 => ?tA23)
                case sA23 => ((try dsimp only); (first | (with_reducible exact hHeld) | exact hk | exact And.intro hk.1.drew hk.2.drew))
                replace hHeld := hA23; clear hK hA23
                refine wpAnyH_ready (rs := [12]) (by kernel_rfl) (by simp) (.cons rfl (fun K hK => ?hcA24) .nil)
                go_simp
                ((first | refine intro_alloc (fun XB hBX hLB => ?_) | refine intro_alloc_drew (fun XB hBX hLB => ?_)); have hq5 := below_push hBX hq5; have hq4 := below_push hBX hq4; have how := ownsRow_turned how (Turned.of_below (T := fun _ => False) hBX) (fun _ _ h => h); have hrr := ownsRow_turned hrr (Turned.of_below (T := fun _ => False) hBX) (fun _ _ h => h); have hk := And.intro (mkr_alloc (by first | exact hHeld.1 | exact undrew_mkr hHeld.1) hBX) (turned_alloc (by first | exact hHeld.2 | exact undrew_turned hHeld.2) hBX); obtain ⟨y0, y1, y2, y3, y4, y5, y6⟩ := quest_cells hq5; (try dsimp only))
                refine hK.out _ _ ?sA24 (fun hA24 => ?tA24)
                case sA24 => ((try dsimp only); (first | (with_reducible exact hHeld) | exact hk | exact And.intro hk.1.drew hk.2.drew))
                replace hHeld := hA24; clear hK hA24
                refine wpAnyH_ready (rs := [13]) (by kernel_rfl) (by simp) (.cons rfl (fun K hK => ?hcA25) .nil)
                (refine step_append_rd _ (by rfl) (.tmp 46) (.tmp 57) (by rfl) slStrR X2.heap.size (.slice oa j oc) _ _ (by rfl) (by exact how) _ _ _ _ (by rfl) (by exact rd_lit hLB rfl) (by intro u hu; simp at hu; subst hu; rfl) (by unfold maxLen; omega) (by omega) (Turned.size hHeld.2) ?_; intro v4 w4 hown4 hgr4 hat4 hnl4; obtain ⟨va4, vc4, rfl, _, _⟩ := (Rd.of_own hown4).form; have hsep4 := Sep.grown hsep hat4 hrr; have hrr := Sep.kept hsep hrr hgr4; have hq5 := (hgr4.block B5 (lt_of_block hq5) (fun e1 => by have := (how.lt B5 e1.symm).1; omega)).trans hq5; have hq4 := (hgr4.block B4 (lt_of_block hq4) (fun e1 => by have := (how.lt B4 e1.symm).1; omega)).trans hq4; have hk := And.intro (MkR.own hHeld.1 HM.out hgr4 (fun g hg => Nat.le_trans hsw2 (how.lt g hg).1)) (Turned.own hHeld.2 hgr4 (fun g hg => (how.lt g hg).1)); have fe := box_frozen hq5 2; obtain ⟨y0, y1, y2, y3, y4, y5, y6⟩ := quest_cells hq5; (try dsimp only))
                refine hK.out _ _ ?sA25 (fun hA25 => ?tA25)
                case sA25 => ((try dsimp only); (first | (with_reducible exact hHeld) | exact hk | exact And.intro hk.1.drew hk.2.drew))
                replace hHeld := hA25; clear hK hA25
                refine tkA (i := 14) (v := ?vA26) rfl (.inl ⟨by kernel_rfl, ?yA26⟩) (by assumption) ?rA26
                case yA26 => (intro w hSw; first | (go_simp; done) | (go_simp; with_reducible rfl))
                refine wpAnyH_ready (rs := [15]) (by kernel_rfl) (by simp) (.cons rfl (fun K hK => ?hcA27) .nil)
                go_simp
                refine hK.out _ _ ?sA27 (fun hA27 => ?tA27)
                case sA27 => ((try dsimp only); (first | (with_reducible exact hHeld) | exact hk | exact And.intro hk.1.drew hk.2.drew | exact And.intro (hk.1.set HM.out HBB.out.2.1) (hk.2.setCell _ _ (.inr (.inr rfl))) | exact And.intro (hk.1.set HM.out HBB.out.2.1).drew (hk.2.setCell _ _ (.inr (.inr rfl))).drew))
                replace hHeld := hA27; clear hK hA27
                refine wpAnyH_done (by kernel_rfl) ?_ _
                clear hHeld
                refine NoPanic.normal ?_
              case' hcA6 =>
               go_simp
               (go_at_call 75; refine (HPH.out _ hHeld.1).mono ?_; rintro e wt ⟨⟨sP, rfl⟩, hrt⟩; have hq5 := hrt.box hq5 hB5P; have hq4 := hrt.box hq4 hB4P; have how := hrt.row how (by omega); have hrr := hrt.row hrr (by omega); have hk := And.intro (MkR.trans hHeld.1 hrt) (hHeld.2.trans (hrt.2.mono (fun _ _ h => .inl h))); obtain ⟨y0, y1, y2, y3, y4, y5, y6⟩ := quest_cells hq5; (try dsimp only))
               refine hK.out _ _ ?sA6 (fun hA6 => ?tA6)
               case sA6 => ((try dsimp only); (first | (with_reducible exact hHeld) | exact hk | exact And.intro hk.1.drew hk.2.drew))
               replace hHeld := hA6; clear hK hA6
               refine wpAnyH_ready (rs := [1, 4, 7]) (by kernel_rfl) (by simp) (.cons rfl (fun K hK => ?hcA28) (.cons rfl (fun K hK => ?hcA29) (.cons rfl (fun K hK => ?hcA30) .nil)))
               case' hcA28 =>
                go_simp
                refine hK.out _ _ ?sA28 (fun hA28 => ?tA28)
                case sA28 => ((try dsimp only); (first | (with_reducible exact hHeld) | exact hk | exact And.intro hk.1.drew hk.2.drew))
                replace hHeld := hA28; clear hK hA28
                refine wpAnyH_ready (rs := [4, 7]) (by kernel_rfl) (by simp) (.cons rfl (fun K hK => ?hcA31) (.cons rfl (fun K hK => ?hcA32) .nil))
                case' hcA31 =>
                 go_simp
                 (have hgA := Nat.ne_of_gt (Nat.lt_of_lt_of_le hP (MkR.size hHeld.1)); (first | refine intro_alloc (fun XA hBX hLA => ?_) | refine intro_alloc_drew (fun XA hBX hLA => ?_)); have hq5 := below_push hBX hq5; have hq4 := below_push hBX hq4; have how := ownsRow_turned how (Turned.of_below (T := fun _ => False) hBX) (fun _ _ h => h); have hrr := ownsRow_turned hrr (Turned.of_below (T := fun _ => False) hBX) (fun _ _ h => h); have hk := And.intro (mkr_alloc (by first | exact hHeld.1 | exact undrew_mkr hHeld.1) hBX) (turned_alloc (by first | exact hHeld.2 | exact undrew_turned hHeld.2) hBX); obtain ⟨y0, y1, y2, y3, y4, y5, y6⟩ := quest_cells hq5; (first | (have hget := lit_get (p := fun v => ∃ s : ByteArray, v = .string s) hLA (by simp) (z := qn) (by simp <;> omega); obtain ⟨v, hcL, sL, rfl⟩ := hget) | skip); (try dsimp only))
                 refine hK.out _ _ ?sA31 (fun hA31 => ?tA31)
                 case sA31 => ((try dsimp only); (first | (with_reducible exact hHeld) | exact hk | exact And.intro hk.1.drew hk.2.drew))
                 replace hHeld := hA31; clear hK hA31
                 refine wpAnyH_ready (rs := [7]) (by kernel_rfl) (by simp) (.cons rfl (fun K hK => ?hcA33) .nil)
                 go_simp
                 (go_at_call 52; refine (HTW.out _ _ hHeld.1).mono ?_; rintro e wt ⟨⟨zt, rfl, hz0, hz1, _⟩, hrt⟩; obtain ⟨zn, rfl⟩ : ∃ zn : Nat, zt = (zn : Int) := ⟨zt.toNat, by omega⟩; have hz2 : (zn : Int) < 2 := hz1 (by decide); obtain ⟨qn, hqn, hq4'⟩ : ∃ qn : Nat, (((j : Int) + (zn : Int)) % 4) = (qn : Int) ∧ qn < 4 := ⟨(((j : Int) + (zn : Int)) % 4).toNat, by omega, by omega⟩; have hqi : (qn : Int) < 4 := (by omega); have hjz0 : (0 : Int) ≤ (j : Int) + (zn : Int) := (by omega); have hjz1 : IntKind.i64.wrap ((j : Int) + (zn : Int)) = (j : Int) + (zn : Int) := IntWalk.i64_in _ (by omega); have hqt : Int.tmod ((j : Int) + (zn : Int)) 4 = (qn : Int) := (Int.tmod_eq_emod_of_nonneg hjz0).trans hqn; have hq5 := hrt.box hq5 hB5P; have hq4 := hrt.box hq4 hB4P; have how := hrt.row how (by omega); have hrr := hrt.row hrr (by omega); have hk := And.intro (MkR.trans hHeld.1 hrt) (hHeld.2.trans (hrt.2.mono (fun _ _ h => .inl h))); obtain ⟨y0, y1, y2, y3, y4, y5, y6⟩ := quest_cells hq5; (first | (have hLA := hrt.box hLA hgA) | skip); (first | (have hget := lit_get (p := fun v => ∃ s : ByteArray, v = .string s) hLA (by simp) (z := qn) (by simp <;> omega); obtain ⟨v, hcL, sL, rfl⟩ := hget) | skip); (try dsimp only))
                 refine hK.out _ _ ?sA33 (fun hA33 => ?tA33)
                 case sA33 => ((try dsimp only); (first | (with_reducible exact hHeld) | exact hk | exact And.intro hk.1.drew hk.2.drew))
                 replace hHeld := hA33; clear hK hA33
                 refine tkA (i := 8) (v := ?vA34) rfl (.inl ⟨by kernel_rfl, ?yA34⟩) (by assumption) ?rA34
                 case yA34 => (intro w hSw; first | (go_simp; done) | (go_simp; with_reducible rfl))
                 refine tkA (i := 9) (v := ?vA35) rfl (.inl ⟨by kernel_rfl, ?yA35⟩) (by assumption) ?rA35
                 case yA35 => (intro w hSw; first | (go_simp; done) | (go_simp; with_reducible rfl))
                 refine tkA (i := 10) (v := ?vA36) rfl (.inl ⟨by kernel_rfl, ?yA36⟩) (by assumption) ?rA36
                 case yA36 => (intro w hSw; first | (go_simp; done) | (go_simp; with_reducible rfl))
                 refine wpAnyH_ready (rs := [11]) (by kernel_rfl) (by simp) (.cons rfl (fun K hK => ?hcA37) .nil)
                 go_simp
                 refine hK.out _ _ ?sA37 (fun hA37 => ?tA37)
                 case sA37 => ((try dsimp only); (first | (with_reducible exact hHeld) | exact hk | exact And.intro hk.1.drew hk.2.drew))
                 replace hHeld := hA37; clear hK hA37
                 refine wpAnyH_ready (rs := [12]) (by kernel_rfl) (by simp) (.cons rfl (fun K hK => ?hcA38) .nil)
                 go_simp
                 ((first | refine intro_alloc (fun XB hBX hLB => ?_) | refine intro_alloc_drew (fun XB hBX hLB => ?_)); have hq5 := below_push hBX hq5; have hq4 := below_push hBX hq4; have how := ownsRow_turned how (Turned.of_below (T := fun _ => False) hBX) (fun _ _ h => h); have hrr := ownsRow_turned hrr (Turned.of_below (T := fun _ => False) hBX) (fun _ _ h => h); have hk := And.intro (mkr_alloc (by first | exact hHeld.1 | exact undrew_mkr hHeld.1) hBX) (turned_alloc (by first | exact hHeld.2 | exact undrew_turned hHeld.2) hBX); obtain ⟨y0, y1, y2, y3, y4, y5, y6⟩ := quest_cells hq5; (try dsimp only))
                 refine hK.out _ _ ?sA38 (fun hA38 => ?tA38)
                 case sA38 => ((try dsimp only); (first | (with_reducible exact hHeld) | exact hk | exact And.intro hk.1.drew hk.2.drew))
                 replace hHeld := hA38; clear hK hA38
                 refine wpAnyH_ready (rs := [13]) (by kernel_rfl) (by simp) (.cons rfl (fun K hK => ?hcA39) .nil)
                 (refine step_append_rd _ (by rfl) (.tmp 46) (.tmp 57) (by rfl) slStrR X2.heap.size (.slice oa j oc) _ _ (by rfl) (by exact how) _ _ _ _ (by rfl) (by exact rd_lit hLB rfl) (by intro u hu; simp at hu; subst hu; rfl) (by unfold maxLen; omega) (by omega) (Turned.size hHeld.2) ?_; intro v4 w4 hown4 hgr4 hat4 hnl4; obtain ⟨va4, vc4, rfl, _, _⟩ := (Rd.of_own hown4).form; have hsep4 := Sep.grown hsep hat4 hrr; have hrr := Sep.kept hsep hrr hgr4; have hq5 := (hgr4.block B5 (lt_of_block hq5) (fun e1 => by have := (how.lt B5 e1.symm).1; omega)).trans hq5; have hq4 := (hgr4.block B4 (lt_of_block hq4) (fun e1 => by have := (how.lt B4 e1.symm).1; omega)).trans hq4; have hk := And.intro (MkR.own hHeld.1 HM.out hgr4 (fun g hg => Nat.le_trans hsw2 (how.lt g hg).1)) (Turned.own hHeld.2 hgr4 (fun g hg => (how.lt g hg).1)); have fe := box_frozen hq5 2; obtain ⟨y0, y1, y2, y3, y4, y5, y6⟩ := quest_cells hq5; (try dsimp only))
                 refine hK.out _ _ ?sA39 (fun hA39 => ?tA39)
                 case sA39 => ((try dsimp only); (first | (with_reducible exact hHeld) | exact hk | exact And.intro hk.1.drew hk.2.drew))
                 replace hHeld := hA39; clear hK hA39
                 refine tkA (i := 14) (v := ?vA40) rfl (.inl ⟨by kernel_rfl, ?yA40⟩) (by assumption) ?rA40
                 case yA40 => (intro w hSw; first | (go_simp; done) | (go_simp; with_reducible rfl))
                 refine wpAnyH_ready (rs := [15]) (by kernel_rfl) (by simp) (.cons rfl (fun K hK => ?hcA41) .nil)
                 go_simp
                 refine hK.out _ _ ?sA41 (fun hA41 => ?tA41)
                 case sA41 => ((try dsimp only); (first | (with_reducible exact hHeld) | exact hk | exact And.intro hk.1.drew hk.2.drew | exact And.intro (hk.1.set HM.out HBB.out.2.1) (hk.2.setCell _ _ (.inr (.inr rfl))) | exact And.intro (hk.1.set HM.out HBB.out.2.1).drew (hk.2.setCell _ _ (.inr (.inr rfl))).drew))
                 replace hHeld := hA41; clear hK hA41
                 refine wpAnyH_done (by kernel_rfl) ?_ _
                 clear hHeld
                 refine NoPanic.normal ?_
                case' hcA32 =>
                 go_simp
                 (go_at_call 52; refine (HTW.out _ _ hHeld.1).mono ?_; rintro e wt ⟨⟨zt, rfl, hz0, hz1, _⟩, hrt⟩; obtain ⟨zn, rfl⟩ : ∃ zn : Nat, zt = (zn : Int) := ⟨zt.toNat, by omega⟩; have hz2 : (zn : Int) < 2 := hz1 (by decide); obtain ⟨qn, hqn, hq4'⟩ : ∃ qn : Nat, (((j : Int) + (zn : Int)) % 4) = (qn : Int) ∧ qn < 4 := ⟨(((j : Int) + (zn : Int)) % 4).toNat, by omega, by omega⟩; have hqi : (qn : Int) < 4 := (by omega); have hjz0 : (0 : Int) ≤ (j : Int) + (zn : Int) := (by omega); have hjz1 : IntKind.i64.wrap ((j : Int) + (zn : Int)) = (j : Int) + (zn : Int) := IntWalk.i64_in _ (by omega); have hqt : Int.tmod ((j : Int) + (zn : Int)) 4 = (qn : Int) := (Int.tmod_eq_emod_of_nonneg hjz0).trans hqn; have hq5 := hrt.box hq5 hB5P; have hq4 := hrt.box hq4 hB4P; have how := hrt.row how (by omega); have hrr := hrt.row hrr (by omega); have hk := And.intro (MkR.trans hHeld.1 hrt) (hHeld.2.trans (hrt.2.mono (fun _ _ h => .inl h))); obtain ⟨y0, y1, y2, y3, y4, y5, y6⟩ := quest_cells hq5; (first | (have hLA := hrt.box hLA hgA) | skip); (first | (have hget := lit_get (p := fun v => ∃ s : ByteArray, v = .string s) hLA (by simp) (z := qn) (by simp <;> omega); obtain ⟨v, hcL, sL, rfl⟩ := hget) | skip); (try dsimp only))
                 refine hK.out _ _ ?sA32 (fun hA32 => ?tA32)
                 case sA32 => ((try dsimp only); (first | (with_reducible exact hHeld) | exact hk | exact And.intro hk.1.drew hk.2.drew))
                 replace hHeld := hA32; clear hK hA32
                 refine tkA (i := 8) (v := ?vA42) rfl (.inl ⟨by kernel_rfl, ?yA42⟩) (by assumption) ?rA42
                 case yA42 => (intro w hSw; first | (go_simp; done) | (go_simp; with_reducible rfl))
                 refine tkA (i := 9) (v := ?vA43) rfl (.inl ⟨by kernel_rfl, ?yA43⟩) (by assumption) ?rA43
                 case yA43 => (intro w hSw; first | (go_simp; done) | (go_simp; with_reducible rfl))
                 refine wpAnyH_ready (rs := [4]) (by kernel_rfl) (by simp) (.cons rfl (fun K hK => ?hcA44) .nil)
                 go_simp
                 (have hgA := Nat.ne_of_gt (Nat.lt_of_lt_of_le hP (MkR.size hHeld.1)); (first | refine intro_alloc (fun XA hBX hLA => ?_) | refine intro_alloc_drew (fun XA hBX hLA => ?_)); have hq5 := below_push hBX hq5; have hq4 := below_push hBX hq4; have how := ownsRow_turned how (Turned.of_below (T := fun _ => False) hBX) (fun _ _ h => h); have hrr := ownsRow_turned hrr (Turned.of_below (T := fun _ => False) hBX) (fun _ _ h => h); have hk := And.intro (mkr_alloc (by first | exact hHeld.1 | exact undrew_mkr hHeld.1) hBX) (turned_alloc (by first | exact hHeld.2 | exact undrew_turned hHeld.2) hBX); obtain ⟨y0, y1, y2, y3, y4, y5, y6⟩ := quest_cells hq5; (first | (have hget := lit_get (p := fun v => ∃ s : ByteArray, v = .string s) hLA (by simp) (z := qn) (by simp <;> omega); obtain ⟨v, hcL, sL, rfl⟩ := hget) | skip); (try dsimp only))
                 refine hK.out _ _ ?sA44 (fun hA44 => ?tA44)
                 case sA44 => ((try dsimp only); (first | (with_reducible exact hHeld) | exact hk | exact And.intro hk.1.drew hk.2.drew))
                 replace hHeld := hA44; clear hK hA44
                 refine tkA (i := 10) (v := ?vA45) rfl (.inl ⟨by kernel_rfl, ?yA45⟩) (by assumption) ?rA45
                 case yA45 => (intro w hSw; first | (go_simp; done) | (go_simp; with_reducible rfl))
                 refine wpAnyH_ready (rs := [11]) (by kernel_rfl) (by simp) (.cons rfl (fun K hK => ?hcA46) .nil)
                 go_simp
                 refine hK.out _ _ ?sA46 (fun hA46 => ?tA46)
                 case sA46 => ((try dsimp only); (first | (with_reducible exact hHeld) | exact hk | exact And.intro hk.1.drew hk.2.drew))
                 replace hHeld := hA46; clear hK hA46
                 refine wpAnyH_ready (rs := [12]) (by kernel_rfl) (by simp) (.cons rfl (fun K hK => ?hcA47) .nil)
                 go_simp
                 ((first | refine intro_alloc (fun XB hBX hLB => ?_) | refine intro_alloc_drew (fun XB hBX hLB => ?_)); have hq5 := below_push hBX hq5; have hq4 := below_push hBX hq4; have how := ownsRow_turned how (Turned.of_below (T := fun _ => False) hBX) (fun _ _ h => h); have hrr := ownsRow_turned hrr (Turned.of_below (T := fun _ => False) hBX) (fun _ _ h => h); have hk := And.intro (mkr_alloc (by first | exact hHeld.1 | exact undrew_mkr hHeld.1) hBX) (turned_alloc (by first | exact hHeld.2 | exact undrew_turned hHeld.2) hBX); obtain ⟨y0, y1, y2, y3, y4, y5, y6⟩ := quest_cells hq5; (try dsimp only))
                 refine hK.out _ _ ?sA47 (fun hA47 => ?tA47)
                 case sA47 => ((try dsimp only); (first | (with_reducible exact hHeld) | exact hk | exact And.intro hk.1.drew hk.2.drew))
                 replace hHeld := hA47; clear hK hA47
                 refine wpAnyH_ready (rs := [13]) (by kernel_rfl) (by simp) (.cons rfl (fun K hK => ?hcA48) .nil)
                 (refine step_append_rd _ (by rfl) (.tmp 46) (.tmp 57) (by rfl) slStrR X2.heap.size (.slice oa j oc) _ _ (by rfl) (by exact how) _ _ _ _ (by rfl) (by exact rd_lit hLB rfl) (by intro u hu; simp at hu; subst hu; rfl) (by unfold maxLen; omega) (by omega) (Turned.size hHeld.2) ?_; intro v4 w4 hown4 hgr4 hat4 hnl4; obtain ⟨va4, vc4, rfl, _, _⟩ := (Rd.of_own hown4).form; have hsep4 := Sep.grown hsep hat4 hrr; have hrr := Sep.kept hsep hrr hgr4; have hq5 := (hgr4.block B5 (lt_of_block hq5) (fun e1 => by have := (how.lt B5 e1.symm).1; omega)).trans hq5; have hq4 := (hgr4.block B4 (lt_of_block hq4) (fun e1 => by have := (how.lt B4 e1.symm).1; omega)).trans hq4; have hk := And.intro (MkR.own hHeld.1 HM.out hgr4 (fun g hg => Nat.le_trans hsw2 (how.lt g hg).1)) (Turned.own hHeld.2 hgr4 (fun g hg => (how.lt g hg).1)); have fe := box_frozen hq5 2; obtain ⟨y0, y1, y2, y3, y4, y5, y6⟩ := quest_cells hq5; (try dsimp only))
                 refine hK.out _ _ ?sA48 (fun hA48 => ?tA48)
                 case sA48 => ((try dsimp only); (first | (with_reducible exact hHeld) | exact hk | exact And.intro hk.1.drew hk.2.drew))
                 replace hHeld := hA48; clear hK hA48
                 refine tkA (i := 14) (v := ?vA49) rfl (.inl ⟨by kernel_rfl, ?yA49⟩) (by assumption) ?rA49
                 case yA49 => (intro w hSw; first | (go_simp; done) | (go_simp; with_reducible rfl))
                 refine wpAnyH_ready (rs := [15]) (by kernel_rfl) (by simp) (.cons rfl (fun K hK => ?hcA50) .nil)
                 go_simp
                 refine hK.out _ _ ?sA50 (fun hA50 => ?tA50)
                 case sA50 => ((try dsimp only); (first | (with_reducible exact hHeld) | exact hk | exact And.intro hk.1.drew hk.2.drew | exact And.intro (hk.1.set HM.out HBB.out.2.1) (hk.2.setCell _ _ (.inr (.inr rfl))) | exact And.intro (hk.1.set HM.out HBB.out.2.1).drew (hk.2.setCell _ _ (.inr (.inr rfl))).drew))
                 replace hHeld := hA50; clear hK hA50
                 refine wpAnyH_done (by kernel_rfl) ?_ _
                 clear hHeld
                 refine NoPanic.normal ?_
               case' hcA29 =>
                go_simp
                (have hgA := Nat.ne_of_gt (Nat.lt_of_lt_of_le hP (MkR.size hHeld.1)); (first | refine intro_alloc (fun XA hBX hLA => ?_) | refine intro_alloc_drew (fun XA hBX hLA => ?_)); have hq5 := below_push hBX hq5; have hq4 := below_push hBX hq4; have how := ownsRow_turned how (Turned.of_below (T := fun _ => False) hBX) (fun _ _ h => h); have hrr := ownsRow_turned hrr (Turned.of_below (T := fun _ => False) hBX) (fun _ _ h => h); have hk := And.intro (mkr_alloc (by first | exact hHeld.1 | exact undrew_mkr hHeld.1) hBX) (turned_alloc (by first | exact hHeld.2 | exact undrew_turned hHeld.2) hBX); obtain ⟨y0, y1, y2, y3, y4, y5, y6⟩ := quest_cells hq5; (first | (have hget := lit_get (p := fun v => ∃ s : ByteArray, v = .string s) hLA (by simp) (z := qn) (by simp <;> omega); obtain ⟨v, hcL, sL, rfl⟩ := hget) | skip); (try dsimp only))
                refine hK.out _ _ ?sA29 (fun hA29 => ?tA29)
                case sA29 => ((try dsimp only); (first | (with_reducible exact hHeld) | exact hk | exact And.intro hk.1.drew hk.2.drew))
                replace hHeld := hA29; clear hK hA29
                refine wpAnyH_ready (rs := [1, 7]) (by kernel_rfl) (by simp) (.cons rfl (fun K hK => ?hcA51) (.cons rfl (fun K hK => ?hcA52) .nil))
                case' hcA51 =>
                 go_simp
                 refine hK.out _ _ ?sA51 (fun hA51 => ?tA51)
                 case sA51 => ((try dsimp only); (first | (with_reducible exact hHeld) | exact hk | exact And.intro hk.1.drew hk.2.drew))
                 replace hHeld := hA51; clear hK hA51
                 refine wpAnyH_ready (rs := [7]) (by kernel_rfl) (by simp) (.cons rfl (fun K hK => ?hcA53) .nil)
                 go_simp
                 (go_at_call 52; refine (HTW.out _ _ hHeld.1).mono ?_; rintro e wt ⟨⟨zt, rfl, hz0, hz1, _⟩, hrt⟩; obtain ⟨zn, rfl⟩ : ∃ zn : Nat, zt = (zn : Int) := ⟨zt.toNat, by omega⟩; have hz2 : (zn : Int) < 2 := hz1 (by decide); obtain ⟨qn, hqn, hq4'⟩ : ∃ qn : Nat, (((j : Int) + (zn : Int)) % 4) = (qn : Int) ∧ qn < 4 := ⟨(((j : Int) + (zn : Int)) % 4).toNat, by omega, by omega⟩; have hqi : (qn : Int) < 4 := (by omega); have hjz0 : (0 : Int) ≤ (j : Int) + (zn : Int) := (by omega); have hjz1 : IntKind.i64.wrap ((j : Int) + (zn : Int)) = (j : Int) + (zn : Int) := IntWalk.i64_in _ (by omega); have hqt : Int.tmod ((j : Int) + (zn : Int)) 4 = (qn : Int) := (Int.tmod_eq_emod_of_nonneg hjz0).trans hqn; have hq5 := hrt.box hq5 hB5P; have hq4 := hrt.box hq4 hB4P; have how := hrt.row how (by omega); have hrr := hrt.row hrr (by omega); have hk := And.intro (MkR.trans hHeld.1 hrt) (hHeld.2.trans (hrt.2.mono (fun _ _ h => .inl h))); obtain ⟨y0, y1, y2, y3, y4, y5, y6⟩ := quest_cells hq5; (first | (have hLA := hrt.box hLA hgA) | skip); (first | (have hget := lit_get (p := fun v => ∃ s : ByteArray, v = .string s) hLA (by simp) (z := qn) (by simp <;> omega); obtain ⟨v, hcL, sL, rfl⟩ := hget) | skip); (try dsimp only))
                 refine hK.out _ _ ?sA53 (fun hA53 => ?tA53)
                 case sA53 => ((try dsimp only); (first | (with_reducible exact hHeld) | exact hk | exact And.intro hk.1.drew hk.2.drew))
                 replace hHeld := hA53; clear hK hA53
                 refine tkA (i := 8) (v := ?vA54) rfl (.inl ⟨by kernel_rfl, ?yA54⟩) (by assumption) ?rA54
                 case yA54 => (intro w hSw; first | (go_simp; done) | (go_simp; with_reducible rfl))
                 refine tkA (i := 9) (v := ?vA55) rfl (.inl ⟨by kernel_rfl, ?yA55⟩) (by assumption) ?rA55
                 case yA55 => (intro w hSw; first | (go_simp; done) | (go_simp; with_reducible rfl))
                 refine tkA (i := 10) (v := ?vA56) rfl (.inl ⟨by kernel_rfl, ?yA56⟩) (by assumption) ?rA56
                 case yA56 => (intro w hSw; first | (go_simp; done) | (go_simp; with_reducible rfl))
                 refine wpAnyH_ready (rs := [11]) (by kernel_rfl) (by simp) (.cons rfl (fun K hK => ?hcA57) .nil)
                 go_simp
                 refine hK.out _ _ ?sA57 (fun hA57 => ?tA57)
                 case sA57 => ((try dsimp only); (first | (with_reducible exact hHeld) | exact hk | exact And.intro hk.1.drew hk.2.drew))
                 replace hHeld := hA57; clear hK hA57
                 refine wpAnyH_ready (rs := [12]) (by kernel_rfl) (by simp) (.cons rfl (fun K hK => ?hcA58) .nil)
                 go_simp
                 ((first | refine intro_alloc (fun XB hBX hLB => ?_) | refine intro_alloc_drew (fun XB hBX hLB => ?_)); have hq5 := below_push hBX hq5; have hq4 := below_push hBX hq4; have how := ownsRow_turned how (Turned.of_below (T := fun _ => False) hBX) (fun _ _ h => h); have hrr := ownsRow_turned hrr (Turned.of_below (T := fun _ => False) hBX) (fun _ _ h => h); have hk := And.intro (mkr_alloc (by first | exact hHeld.1 | exact undrew_mkr hHeld.1) hBX) (turned_alloc (by first | exact hHeld.2 | exact undrew_turned hHeld.2) hBX); obtain ⟨y0, y1, y2, y3, y4, y5, y6⟩ := quest_cells hq5; (try dsimp only))
                 refine hK.out _ _ ?sA58 (fun hA58 => ?tA58)
                 case sA58 => ((try dsimp only); (first | (with_reducible exact hHeld) | exact hk | exact And.intro hk.1.drew hk.2.drew))
                 replace hHeld := hA58; clear hK hA58
                 refine wpAnyH_ready (rs := [13]) (by kernel_rfl) (by simp) (.cons rfl (fun K hK => ?hcA59) .nil)
                 (refine step_append_rd _ (by rfl) (.tmp 46) (.tmp 57) (by rfl) slStrR X2.heap.size (.slice oa j oc) _ _ (by rfl) (by exact how) _ _ _ _ (by rfl) (by exact rd_lit hLB rfl) (by intro u hu; simp at hu; subst hu; rfl) (by unfold maxLen; omega) (by omega) (Turned.size hHeld.2) ?_; intro v4 w4 hown4 hgr4 hat4 hnl4; obtain ⟨va4, vc4, rfl, _, _⟩ := (Rd.of_own hown4).form; have hsep4 := Sep.grown hsep hat4 hrr; have hrr := Sep.kept hsep hrr hgr4; have hq5 := (hgr4.block B5 (lt_of_block hq5) (fun e1 => by have := (how.lt B5 e1.symm).1; omega)).trans hq5; have hq4 := (hgr4.block B4 (lt_of_block hq4) (fun e1 => by have := (how.lt B4 e1.symm).1; omega)).trans hq4; have hk := And.intro (MkR.own hHeld.1 HM.out hgr4 (fun g hg => Nat.le_trans hsw2 (how.lt g hg).1)) (Turned.own hHeld.2 hgr4 (fun g hg => (how.lt g hg).1)); have fe := box_frozen hq5 2; obtain ⟨y0, y1, y2, y3, y4, y5, y6⟩ := quest_cells hq5; (try dsimp only))
                 refine hK.out _ _ ?sA59 (fun hA59 => ?tA59)
                 case sA59 => ((try dsimp only); (first | (with_reducible exact hHeld) | exact hk | exact And.intro hk.1.drew hk.2.drew))
                 replace hHeld := hA59; clear hK hA59
                 refine tkA (i := 14) (v := ?vA60) rfl (.inl ⟨by kernel_rfl, ?yA60⟩) (by assumption) ?rA60
                 case yA60 => (intro w hSw; first | (go_simp; done) | (go_simp; with_reducible rfl))
                 refine wpAnyH_ready (rs := [15]) (by kernel_rfl) (by simp) (.cons rfl (fun K hK => ?hcA61) .nil)
                 go_simp
                 refine hK.out _ _ ?sA61 (fun hA61 => ?tA61)
                 case sA61 => ((try dsimp only); (first | (with_reducible exact hHeld) | exact hk | exact And.intro hk.1.drew hk.2.drew | exact And.intro (hk.1.set HM.out HBB.out.2.1) (hk.2.setCell _ _ (.inr (.inr rfl))) | exact And.intro (hk.1.set HM.out HBB.out.2.1).drew (hk.2.setCell _ _ (.inr (.inr rfl))).drew))
                 replace hHeld := hA61; clear hK hA61
                 refine wpAnyH_done (by kernel_rfl) ?_ _
                 clear hHeld
                 refine NoPanic.normal ?_
                case' hcA52 =>
                 go_simp
                 (go_at_call 52; refine (HTW.out _ _ hHeld.1).mono ?_; rintro e wt ⟨⟨zt, rfl, hz0, hz1, _⟩, hrt⟩; obtain ⟨zn, rfl⟩ : ∃ zn : Nat, zt = (zn : Int) := ⟨zt.toNat, by omega⟩; have hz2 : (zn : Int) < 2 := hz1 (by decide); obtain ⟨qn, hqn, hq4'⟩ : ∃ qn : Nat, (((j : Int) + (zn : Int)) % 4) = (qn : Int) ∧ qn < 4 := ⟨(((j : Int) + (zn : Int)) % 4).toNat, by omega, by omega⟩; have hqi : (qn : Int) < 4 := (by omega); have hjz0 : (0 : Int) ≤ (j : Int) + (zn : Int) := (by omega); have hjz1 : IntKind.i64.wrap ((j : Int) + (zn : Int)) = (j : Int) + (zn : Int) := IntWalk.i64_in _ (by omega); have hqt : Int.tmod ((j : Int) + (zn : Int)) 4 = (qn : Int) := (Int.tmod_eq_emod_of_nonneg hjz0).trans hqn; have hq5 := hrt.box hq5 hB5P; have hq4 := hrt.box hq4 hB4P; have how := hrt.row how (by omega); have hrr := hrt.row hrr (by omega); have hk := And.intro (MkR.trans hHeld.1 hrt) (hHeld.2.trans (hrt.2.mono (fun _ _ h => .inl h))); obtain ⟨y0, y1, y2, y3, y4, y5, y6⟩ := quest_cells hq5; (first | (have hLA := hrt.box hLA hgA) | skip); (first | (have hget := lit_get (p := fun v => ∃ s : ByteArray, v = .string s) hLA (by simp) (z := qn) (by simp <;> omega); obtain ⟨v, hcL, sL, rfl⟩ := hget) | skip); (try dsimp only))
                 refine hK.out _ _ ?sA52 (fun hA52 => ?tA52)
                 case sA52 => ((try dsimp only); (first | (with_reducible exact hHeld) | exact hk | exact And.intro hk.1.drew hk.2.drew))
                 replace hHeld := hA52; clear hK hA52
                 refine tkA (i := 8) (v := ?vA62) rfl (.inl ⟨by kernel_rfl, ?yA62⟩) (by assumption) ?rA62
                 case yA62 => (intro w hSw; first | (go_simp; done) | (go_simp; with_reducible rfl))
                 refine tkA (i := 9) (v := ?vA63) rfl (.inl ⟨by kernel_rfl, ?yA63⟩) (by assumption) ?rA63
                 case yA63 => (intro w hSw; first | (go_simp; done) | (go_simp; with_reducible rfl))
                 refine tkA (i := 10) (v := ?vA64) rfl (.inl ⟨by kernel_rfl, ?yA64⟩) (by assumption) ?rA64
                 case yA64 => (intro w hSw; first | (go_simp; done) | (go_simp; with_reducible rfl))
                 refine wpAnyH_ready (rs := [1, 11]) (by kernel_rfl) (by simp) (.cons rfl (fun K hK => ?hcA65) (.cons rfl (fun K hK => ?hcA66) .nil))
                 case' hcA65 =>
                  go_simp
                  refine hK.out _ _ ?sA65 (fun hA65 => ?tA65)
                  case sA65 => ((try dsimp only); (first | (with_reducible exact hHeld) | exact hk | exact And.intro hk.1.drew hk.2.drew))
                  replace hHeld := hA65; clear hK hA65
                  refine wpAnyH_ready (rs := [11]) (by kernel_rfl) (by simp) (.cons rfl (fun K hK => ?hcA67) .nil)
                  go_simp
                  refine hK.out _ _ ?sA67 (fun hA67 => ?tA67)
                  case sA67 => ((try dsimp only); (first | (with_reducible exact hHeld) | exact hk | exact And.intro hk.1.drew hk.2.drew))
                  replace hHeld := hA67; clear hK hA67
                  refine wpAnyH_ready (rs := [12]) (by kernel_rfl) (by simp) (.cons rfl (fun K hK => ?hcA68) .nil)
                  go_simp
                  ((first | refine intro_alloc (fun XB hBX hLB => ?_) | refine intro_alloc_drew (fun XB hBX hLB => ?_)); have hq5 := below_push hBX hq5; have hq4 := below_push hBX hq4; have how := ownsRow_turned how (Turned.of_below (T := fun _ => False) hBX) (fun _ _ h => h); have hrr := ownsRow_turned hrr (Turned.of_below (T := fun _ => False) hBX) (fun _ _ h => h); have hk := And.intro (mkr_alloc (by first | exact hHeld.1 | exact undrew_mkr hHeld.1) hBX) (turned_alloc (by first | exact hHeld.2 | exact undrew_turned hHeld.2) hBX); obtain ⟨y0, y1, y2, y3, y4, y5, y6⟩ := quest_cells hq5; (try dsimp only))
                  refine hK.out _ _ ?sA68 (fun hA68 => ?tA68)
                  case sA68 => ((try dsimp only); (first | (with_reducible exact hHeld) | exact hk | exact And.intro hk.1.drew hk.2.drew))
                  replace hHeld := hA68; clear hK hA68
                  refine wpAnyH_ready (rs := [13]) (by kernel_rfl) (by simp) (.cons rfl (fun K hK => ?hcA69) .nil)
                  (refine step_append_rd _ (by rfl) (.tmp 46) (.tmp 57) (by rfl) slStrR X2.heap.size (.slice oa j oc) _ _ (by rfl) (by exact how) _ _ _ _ (by rfl) (by exact rd_lit hLB rfl) (by intro u hu; simp at hu; subst hu; rfl) (by unfold maxLen; omega) (by omega) (Turned.size hHeld.2) ?_; intro v4 w4 hown4 hgr4 hat4 hnl4; obtain ⟨va4, vc4, rfl, _, _⟩ := (Rd.of_own hown4).form; have hsep4 := Sep.grown hsep hat4 hrr; have hrr := Sep.kept hsep hrr hgr4; have hq5 := (hgr4.block B5 (lt_of_block hq5) (fun e1 => by have := (how.lt B5 e1.symm).1; omega)).trans hq5; have hq4 := (hgr4.block B4 (lt_of_block hq4) (fun e1 => by have := (how.lt B4 e1.symm).1; omega)).trans hq4; have hk := And.intro (MkR.own hHeld.1 HM.out hgr4 (fun g hg => Nat.le_trans hsw2 (how.lt g hg).1)) (Turned.own hHeld.2 hgr4 (fun g hg => (how.lt g hg).1)); have fe := box_frozen hq5 2; obtain ⟨y0, y1, y2, y3, y4, y5, y6⟩ := quest_cells hq5; (try dsimp only))
                  refine hK.out _ _ ?sA69 (fun hA69 => ?tA69)
                  case sA69 => ((try dsimp only); (first | (with_reducible exact hHeld) | exact hk | exact And.intro hk.1.drew hk.2.drew))
                  replace hHeld := hA69; clear hK hA69
                  refine tkA (i := 14) (v := ?vA70) rfl (.inl ⟨by kernel_rfl, ?yA70⟩) (by assumption) ?rA70
                  case yA70 => (intro w hSw; first | (go_simp; done) | (go_simp; with_reducible rfl))
                  refine wpAnyH_ready (rs := [15]) (by kernel_rfl) (by simp) (.cons rfl (fun K hK => ?hcA71) .nil)
                  go_simp
                  refine hK.out _ _ ?sA71 (fun hA71 => ?tA71)
                  case sA71 => ((try dsimp only); (first | (with_reducible exact hHeld) | exact hk | exact And.intro hk.1.drew hk.2.drew | exact And.intro (hk.1.set HM.out HBB.out.2.1) (hk.2.setCell _ _ (.inr (.inr rfl))) | exact And.intro (hk.1.set HM.out HBB.out.2.1).drew (hk.2.setCell _ _ (.inr (.inr rfl))).drew))
                  replace hHeld := hA71; clear hK hA71
                  refine wpAnyH_done (by kernel_rfl) ?_ _
                  clear hHeld
                  refine NoPanic.normal ?_
                 case' hcA66 =>
                  go_simp
                  refine hK.out _ _ ?sA66 (fun hA66 => ?tA66)
                  case sA66 => ((try dsimp only); (first | (with_reducible exact hHeld) | exact hk | exact And.intro hk.1.drew hk.2.drew))
                  replace hHeld := hA66; clear hK hA66
                  refine wpAnyH_ready (rs := [1, 12]) (by kernel_rfl) (by simp) (.cons rfl (fun K hK => ?hcA72) (.cons rfl (fun K hK => ?hcA73) .nil))
                  case' hcA72 =>
                   go_simp
                   refine hK.out _ _ ?sA72 (fun hA72 => ?tA72)
                   case sA72 => ((try dsimp only); (first | (with_reducible exact hHeld) | exact hk | exact And.intro hk.1.drew hk.2.drew))
                   replace hHeld := hA72; clear hK hA72
                   refine wpAnyH_ready (rs := [12]) (by kernel_rfl) (by simp) (.cons rfl (fun K hK => ?hcA74) .nil)
                   go_simp
                   ((first | refine intro_alloc (fun XB hBX hLB => ?_) | refine intro_alloc_drew (fun XB hBX hLB => ?_)); have hq5 := below_push hBX hq5; have hq4 := below_push hBX hq4; have how := ownsRow_turned how (Turned.of_below (T := fun _ => False) hBX) (fun _ _ h => h); have hrr := ownsRow_turned hrr (Turned.of_below (T := fun _ => False) hBX) (fun _ _ h => h); have hk := And.intro (mkr_alloc (by first | exact hHeld.1 | exact undrew_mkr hHeld.1) hBX) (turned_alloc (by first | exact hHeld.2 | exact undrew_turned hHeld.2) hBX); obtain ⟨y0, y1, y2, y3, y4, y5, y6⟩ := quest_cells hq5; (try dsimp only))
                   refine hK.out _ _ ?sA74 (fun hA74 => ?tA74)
                   case sA74 => ((try dsimp only); (first | (with_reducible exact hHeld) | exact hk | exact And.intro hk.1.drew hk.2.drew))
                   replace hHeld := hA74; clear hK hA74
                   refine wpAnyH_ready (rs := [13]) (by kernel_rfl) (by simp) (.cons rfl (fun K hK => ?hcA75) .nil)
                   (refine step_append_rd _ (by rfl) (.tmp 46) (.tmp 57) (by rfl) slStrR X2.heap.size (.slice oa j oc) _ _ (by rfl) (by exact how) _ _ _ _ (by rfl) (by exact rd_lit hLB rfl) (by intro u hu; simp at hu; subst hu; rfl) (by unfold maxLen; omega) (by omega) (Turned.size hHeld.2) ?_; intro v4 w4 hown4 hgr4 hat4 hnl4; obtain ⟨va4, vc4, rfl, _, _⟩ := (Rd.of_own hown4).form; have hsep4 := Sep.grown hsep hat4 hrr; have hrr := Sep.kept hsep hrr hgr4; have hq5 := (hgr4.block B5 (lt_of_block hq5) (fun e1 => by have := (how.lt B5 e1.symm).1; omega)).trans hq5; have hq4 := (hgr4.block B4 (lt_of_block hq4) (fun e1 => by have := (how.lt B4 e1.symm).1; omega)).trans hq4; have hk := And.intro (MkR.own hHeld.1 HM.out hgr4 (fun g hg => Nat.le_trans hsw2 (how.lt g hg).1)) (Turned.own hHeld.2 hgr4 (fun g hg => (how.lt g hg).1)); have fe := box_frozen hq5 2; obtain ⟨y0, y1, y2, y3, y4, y5, y6⟩ := quest_cells hq5; (try dsimp only))
                   refine hK.out _ _ ?sA75 (fun hA75 => ?tA75)
                   case sA75 => ((try dsimp only); (first | (with_reducible exact hHeld) | exact hk | exact And.intro hk.1.drew hk.2.drew))
                   replace hHeld := hA75; clear hK hA75
                   refine tkA (i := 14) (v := ?vA76) rfl (.inl ⟨by kernel_rfl, ?yA76⟩) (by assumption) ?rA76
                   case yA76 => (intro w hSw; first | (go_simp; done) | (go_simp; with_reducible rfl))
                   refine wpAnyH_ready (rs := [15]) (by kernel_rfl) (by simp) (.cons rfl (fun K hK => ?hcA77) .nil)
                   go_simp
                   refine hK.out _ _ ?sA77 (fun hA77 => ?tA77)
                   case sA77 => ((try dsimp only); (first | (with_reducible exact hHeld) | exact hk | exact And.intro hk.1.drew hk.2.drew | exact And.intro (hk.1.set HM.out HBB.out.2.1) (hk.2.setCell _ _ (.inr (.inr rfl))) | exact And.intro (hk.1.set HM.out HBB.out.2.1).drew (hk.2.setCell _ _ (.inr (.inr rfl))).drew))
                   replace hHeld := hA77; clear hK hA77
                   refine wpAnyH_done (by kernel_rfl) ?_ _
                   clear hHeld
                   refine NoPanic.normal ?_
                  case' hcA73 =>
                   go_simp
                   ((first | refine intro_alloc (fun XB hBX hLB => ?_) | refine intro_alloc_drew (fun XB hBX hLB => ?_)); have hq5 := below_push hBX hq5; have hq4 := below_push hBX hq4; have how := ownsRow_turned how (Turned.of_below (T := fun _ => False) hBX) (fun _ _ h => h); have hrr := ownsRow_turned hrr (Turned.of_below (T := fun _ => False) hBX) (fun _ _ h => h); have hk := And.intro (mkr_alloc (by first | exact hHeld.1 | exact undrew_mkr hHeld.1) hBX) (turned_alloc (by first | exact hHeld.2 | exact undrew_turned hHeld.2) hBX); obtain ⟨y0, y1, y2, y3, y4, y5, y6⟩ := quest_cells hq5; (try dsimp only))
                   refine hK.out _ _ ?sA73 (fun hA73 => ?tA73)
                   case sA73 => ((try dsimp only); (first | (with_reducible exact hHeld) | exact hk | exact And.intro hk.1.drew hk.2.drew))
                   replace hHeld := hA73; clear hK hA73
                   refine wpAnyH_ready (rs := [1]) (by kernel_rfl) (by simp) (.cons rfl (fun K hK => ?hcA78) .nil)
                   go_simp
                   refine hK.out _ _ ?sA78 (fun hA78 => ?tA78)
                   case sA78 => ((try dsimp only); (first | (with_reducible exact hHeld) | exact hk | exact And.intro hk.1.drew hk.2.drew))
                   replace hHeld := hA78; clear hK hA78
                   refine wpAnyH_ready (rs := [13]) (by kernel_rfl) (by simp) (.cons rfl (fun K hK => ?hcA79) .nil)
                   (refine step_append_rd _ (by rfl) (.tmp 46) (.tmp 57) (by rfl) slStrR X2.heap.size (.slice oa j oc) _ _ (by rfl) (by exact how) _ _ _ _ (by rfl) (by exact rd_lit hLB rfl) (by intro u hu; simp at hu; subst hu; rfl) (by unfold maxLen; omega) (by omega) (Turned.size hHeld.2) ?_; intro v4 w4 hown4 hgr4 hat4 hnl4; obtain ⟨va4, vc4, rfl, _, _⟩ := (Rd.of_own hown4).form; have hsep4 := Sep.grown hsep hat4 hrr; have hrr := Sep.kept hsep hrr hgr4; have hq5 := (hgr4.block B5 (lt_of_block hq5) (fun e1 => by have := (how.lt B5 e1.symm).1; omega)).trans hq5; have hq4 := (hgr4.block B4 (lt_of_block hq4) (fun e1 => by have := (how.lt B4 e1.symm).1; omega)).trans hq4; have hk := And.intro (MkR.own hHeld.1 HM.out hgr4 (fun g hg => Nat.le_trans hsw2 (how.lt g hg).1)) (Turned.own hHeld.2 hgr4 (fun g hg => (how.lt g hg).1)); have fe := box_frozen hq5 2; obtain ⟨y0, y1, y2, y3, y4, y5, y6⟩ := quest_cells hq5; (try dsimp only))
                   refine hK.out _ _ ?sA79 (fun hA79 => ?tA79)
                   case sA79 => ((try dsimp only); (first | (with_reducible exact hHeld) | exact hk | exact And.intro hk.1.drew hk.2.drew))
                   replace hHeld := hA79; clear hK hA79
                   refine tkA (i := 14) (v := ?vA80) rfl (.inl ⟨by kernel_rfl, ?yA80⟩) (by assumption) ?rA80
                   case yA80 => (intro w hSw; first | (go_simp; done) | (go_simp; with_reducible rfl))
                   refine wpAnyH_ready (rs := [15]) (by kernel_rfl) (by simp) (.cons rfl (fun K hK => ?hcA81) .nil)
                   go_simp
                   refine hK.out _ _ ?sA81 (fun hA81 => ?tA81)
                   case sA81 => ((try dsimp only); (first | (with_reducible exact hHeld) | exact hk | exact And.intro hk.1.drew hk.2.drew | exact And.intro (hk.1.set HM.out HBB.out.2.1) (hk.2.setCell _ _ (.inr (.inr rfl))) | exact And.intro (hk.1.set HM.out HBB.out.2.1).drew (hk.2.setCell _ _ (.inr (.inr rfl))).drew))
                   replace hHeld := hA81; clear hK hA81
                   refine wpAnyH_done (by kernel_rfl) ?_ _
                   clear hHeld
                   refine NoPanic.normal ?_
               case' hcA30 =>
                go_simp
                (go_at_call 52; refine (HTW.out _ _ hHeld.1).mono ?_; rintro e wt ⟨⟨zt, rfl, hz0, hz1, _⟩, hrt⟩; obtain ⟨zn, rfl⟩ : ∃ zn : Nat, zt = (zn : Int) := ⟨zt.toNat, by omega⟩; have hz2 : (zn : Int) < 2 := hz1 (by decide); obtain ⟨qn, hqn, hq4'⟩ : ∃ qn : Nat, (((j : Int) + (zn : Int)) % 4) = (qn : Int) ∧ qn < 4 := ⟨(((j : Int) + (zn : Int)) % 4).toNat, by omega, by omega⟩; have hqi : (qn : Int) < 4 := (by omega); have hjz0 : (0 : Int) ≤ (j : Int) + (zn : Int) := (by omega); have hjz1 : IntKind.i64.wrap ((j : Int) + (zn : Int)) = (j : Int) + (zn : Int) := IntWalk.i64_in _ (by omega); have hqt : Int.tmod ((j : Int) + (zn : Int)) 4 = (qn : Int) := (Int.tmod_eq_emod_of_nonneg hjz0).trans hqn; have hq5 := hrt.box hq5 hB5P; have hq4 := hrt.box hq4 hB4P; have how := hrt.row how (by omega); have hrr := hrt.row hrr (by omega); have hk := And.intro (MkR.trans hHeld.1 hrt) (hHeld.2.trans (hrt.2.mono (fun _ _ h => .inl h))); obtain ⟨y0, y1, y2, y3, y4, y5, y6⟩ := quest_cells hq5; (first | (have hLA := hrt.box hLA hgA) | skip); (first | (have hget := lit_get (p := fun v => ∃ s : ByteArray, v = .string s) hLA (by simp) (z := qn) (by simp <;> omega); obtain ⟨v, hcL, sL, rfl⟩ := hget) | skip); (try dsimp only))
                refine hK.out _ _ ?sA30 (fun hA30 => ?tA30)
                case sA30 => ((try dsimp only); (first | (with_reducible exact hHeld) | exact hk | exact And.intro hk.1.drew hk.2.drew))
                replace hHeld := hA30; clear hK hA30
                refine tkA (i := 8) (v := ?vA82) rfl (.inl ⟨by kernel_rfl, ?yA82⟩) (by assumption) ?rA82
                case yA82 => (intro w hSw; first | (go_simp; done) | (go_simp; with_reducible rfl))
                refine tkA (i := 9) (v := ?vA83) rfl (.inl ⟨by kernel_rfl, ?yA83⟩) (by assumption) ?rA83
                case yA83 => (intro w hSw; first | (go_simp; done) | (go_simp; with_reducible rfl))
                refine wpAnyH_ready (rs := [1, 4]) (by kernel_rfl) (by simp) (.cons rfl (fun K hK => ?hcA84) (.cons rfl (fun K hK => ?hcA85) .nil))
                case' hcA84 =>
                 go_simp
                 refine hK.out _ _ ?sA84 (fun hA84 => ?tA84)
                 case sA84 => ((try dsimp only); (first | (with_reducible exact hHeld) | exact hk | exact And.intro hk.1.drew hk.2.drew))
                 replace hHeld := hA84; clear hK hA84
                 refine wpAnyH_ready (rs := [4]) (by kernel_rfl) (by simp) (.cons rfl (fun K hK => ?hcA86) .nil)
                 go_simp
                 (have hgA := Nat.ne_of_gt (Nat.lt_of_lt_of_le hP (MkR.size hHeld.1)); (first | refine intro_alloc (fun XA hBX hLA => ?_) | refine intro_alloc_drew (fun XA hBX hLA => ?_)); have hq5 := below_push hBX hq5; have hq4 := below_push hBX hq4; have how := ownsRow_turned how (Turned.of_below (T := fun _ => False) hBX) (fun _ _ h => h); have hrr := ownsRow_turned hrr (Turned.of_below (T := fun _ => False) hBX) (fun _ _ h => h); have hk := And.intro (mkr_alloc (by first | exact hHeld.1 | exact undrew_mkr hHeld.1) hBX) (turned_alloc (by first | exact hHeld.2 | exact undrew_turned hHeld.2) hBX); obtain ⟨y0, y1, y2, y3, y4, y5, y6⟩ := quest_cells hq5; (first | (have hget := lit_get (p := fun v => ∃ s : ByteArray, v = .string s) hLA (by simp) (z := qn) (by simp <;> omega); obtain ⟨v, hcL, sL, rfl⟩ := hget) | skip); (try dsimp only))
                 refine hK.out _ _ ?sA86 (fun hA86 => ?tA86)
                 case sA86 => ((try dsimp only); (first | (with_reducible exact hHeld) | exact hk | exact And.intro hk.1.drew hk.2.drew))
                 replace hHeld := hA86; clear hK hA86
                 refine tkA (i := 10) (v := ?vA87) rfl (.inl ⟨by kernel_rfl, ?yA87⟩) (by assumption) ?rA87
                 case yA87 => (intro w hSw; first | (go_simp; done) | (go_simp; with_reducible rfl))
                 refine wpAnyH_ready (rs := [11]) (by kernel_rfl) (by simp) (.cons rfl (fun K hK => ?hcA88) .nil)
                 go_simp
                 refine hK.out _ _ ?sA88 (fun hA88 => ?tA88)
                 case sA88 => ((try dsimp only); (first | (with_reducible exact hHeld) | exact hk | exact And.intro hk.1.drew hk.2.drew))
                 replace hHeld := hA88; clear hK hA88
                 refine wpAnyH_ready (rs := [12]) (by kernel_rfl) (by simp) (.cons rfl (fun K hK => ?hcA89) .nil)
                 go_simp
                 ((first | refine intro_alloc (fun XB hBX hLB => ?_) | refine intro_alloc_drew (fun XB hBX hLB => ?_)); have hq5 := below_push hBX hq5; have hq4 := below_push hBX hq4; have how := ownsRow_turned how (Turned.of_below (T := fun _ => False) hBX) (fun _ _ h => h); have hrr := ownsRow_turned hrr (Turned.of_below (T := fun _ => False) hBX) (fun _ _ h => h); have hk := And.intro (mkr_alloc (by first | exact hHeld.1 | exact undrew_mkr hHeld.1) hBX) (turned_alloc (by first | exact hHeld.2 | exact undrew_turned hHeld.2) hBX); obtain ⟨y0, y1, y2, y3, y4, y5, y6⟩ := quest_cells hq5; (try dsimp only))
                 refine hK.out _ _ ?sA89 (fun hA89 => ?tA89)
                 case sA89 => ((try dsimp only); (first | (with_reducible exact hHeld) | exact hk | exact And.intro hk.1.drew hk.2.drew))
                 replace hHeld := hA89; clear hK hA89
                 refine wpAnyH_ready (rs := [13]) (by kernel_rfl) (by simp) (.cons rfl (fun K hK => ?hcA90) .nil)
                 (refine step_append_rd _ (by rfl) (.tmp 46) (.tmp 57) (by rfl) slStrR X2.heap.size (.slice oa j oc) _ _ (by rfl) (by exact how) _ _ _ _ (by rfl) (by exact rd_lit hLB rfl) (by intro u hu; simp at hu; subst hu; rfl) (by unfold maxLen; omega) (by omega) (Turned.size hHeld.2) ?_; intro v4 w4 hown4 hgr4 hat4 hnl4; obtain ⟨va4, vc4, rfl, _, _⟩ := (Rd.of_own hown4).form; have hsep4 := Sep.grown hsep hat4 hrr; have hrr := Sep.kept hsep hrr hgr4; have hq5 := (hgr4.block B5 (lt_of_block hq5) (fun e1 => by have := (how.lt B5 e1.symm).1; omega)).trans hq5; have hq4 := (hgr4.block B4 (lt_of_block hq4) (fun e1 => by have := (how.lt B4 e1.symm).1; omega)).trans hq4; have hk := And.intro (MkR.own hHeld.1 HM.out hgr4 (fun g hg => Nat.le_trans hsw2 (how.lt g hg).1)) (Turned.own hHeld.2 hgr4 (fun g hg => (how.lt g hg).1)); have fe := box_frozen hq5 2; obtain ⟨y0, y1, y2, y3, y4, y5, y6⟩ := quest_cells hq5; (try dsimp only))
                 refine hK.out _ _ ?sA90 (fun hA90 => ?tA90)
                 case sA90 => ((try dsimp only); (first | (with_reducible exact hHeld) | exact hk | exact And.intro hk.1.drew hk.2.drew))
                 replace hHeld := hA90; clear hK hA90
                 refine tkA (i := 14) (v := ?vA91) rfl (.inl ⟨by kernel_rfl, ?yA91⟩) (by assumption) ?rA91
                 case yA91 => (intro w hSw; first | (go_simp; done) | (go_simp; with_reducible rfl))
                 refine wpAnyH_ready (rs := [15]) (by kernel_rfl) (by simp) (.cons rfl (fun K hK => ?hcA92) .nil)
                 go_simp
                 refine hK.out _ _ ?sA92 (fun hA92 => ?tA92)
                 case sA92 => ((try dsimp only); (first | (with_reducible exact hHeld) | exact hk | exact And.intro hk.1.drew hk.2.drew | exact And.intro (hk.1.set HM.out HBB.out.2.1) (hk.2.setCell _ _ (.inr (.inr rfl))) | exact And.intro (hk.1.set HM.out HBB.out.2.1).drew (hk.2.setCell _ _ (.inr (.inr rfl))).drew))
                 replace hHeld := hA92; clear hK hA92
                 refine wpAnyH_done (by kernel_rfl) ?_ _
                 clear hHeld
                 refine NoPanic.normal ?_
                case' hcA85 =>
                 go_simp
                 (have hgA := Nat.ne_of_gt (Nat.lt_of_lt_of_le hP (MkR.size hHeld.1)); (first | refine intro_alloc (fun XA hBX hLA => ?_) | refine intro_alloc_drew (fun XA hBX hLA => ?_)); have hq5 := below_push hBX hq5; have hq4 := below_push hBX hq4; have how := ownsRow_turned how (Turned.of_below (T := fun _ => False) hBX) (fun _ _ h => h); have hrr := ownsRow_turned hrr (Turned.of_below (T := fun _ => False) hBX) (fun _ _ h => h); have hk := And.intro (mkr_alloc (by first | exact hHeld.1 | exact undrew_mkr hHeld.1) hBX) (turned_alloc (by first | exact hHeld.2 | exact undrew_turned hHeld.2) hBX); obtain ⟨y0, y1, y2, y3, y4, y5, y6⟩ := quest_cells hq5; (first | (have hget := lit_get (p := fun v => ∃ s : ByteArray, v = .string s) hLA (by simp) (z := qn) (by simp <;> omega); obtain ⟨v, hcL, sL, rfl⟩ := hget) | skip); (try dsimp only))
                 refine hK.out _ _ ?sA85 (fun hA85 => ?tA85)
                 case sA85 => ((try dsimp only); (first | (with_reducible exact hHeld) | exact hk | exact And.intro hk.1.drew hk.2.drew))
                 replace hHeld := hA85; clear hK hA85
                 refine tkA (i := 10) (v := ?vA93) rfl (.inl ⟨by kernel_rfl, ?yA93⟩) (by assumption) ?rA93
                 case yA93 => (intro w hSw; first | (go_simp; done) | (go_simp; with_reducible rfl))
                 refine wpAnyH_ready (rs := [1, 11]) (by kernel_rfl) (by simp) (.cons rfl (fun K hK => ?hcA94) (.cons rfl (fun K hK => ?hcA95) .nil))
                 case' hcA94 =>
                  go_simp
                  refine hK.out _ _ ?sA94 (fun hA94 => ?tA94)
                  case sA94 => ((try dsimp only); (first | (with_reducible exact hHeld) | exact hk | exact And.intro hk.1.drew hk.2.drew))
                  replace hHeld := hA94; clear hK hA94
                  refine wpAnyH_ready (rs := [11]) (by kernel_rfl) (by simp) (.cons rfl (fun K hK => ?hcA96) .nil)
                  go_simp
                  refine hK.out _ _ ?sA96 (fun hA96 => ?tA96)
                  case sA96 => ((try dsimp only); (first | (with_reducible exact hHeld) | exact hk | exact And.intro hk.1.drew hk.2.drew))
                  replace hHeld := hA96; clear hK hA96
                  refine wpAnyH_ready (rs := [12]) (by kernel_rfl) (by simp) (.cons rfl (fun K hK => ?hcA97) .nil)
                  go_simp
                  ((first | refine intro_alloc (fun XB hBX hLB => ?_) | refine intro_alloc_drew (fun XB hBX hLB => ?_)); have hq5 := below_push hBX hq5; have hq4 := below_push hBX hq4; have how := ownsRow_turned how (Turned.of_below (T := fun _ => False) hBX) (fun _ _ h => h); have hrr := ownsRow_turned hrr (Turned.of_below (T := fun _ => False) hBX) (fun _ _ h => h); have hk := And.intro (mkr_alloc (by first | exact hHeld.1 | exact undrew_mkr hHeld.1) hBX) (turned_alloc (by first | exact hHeld.2 | exact undrew_turned hHeld.2) hBX); obtain ⟨y0, y1, y2, y3, y4, y5, y6⟩ := quest_cells hq5; (try dsimp only))
                  refine hK.out _ _ ?sA97 (fun hA97 => ?tA97)
                  case sA97 => ((try dsimp only); (first | (with_reducible exact hHeld) | exact hk | exact And.intro hk.1.drew hk.2.drew))
                  replace hHeld := hA97; clear hK hA97
                  refine wpAnyH_ready (rs := [13]) (by kernel_rfl) (by simp) (.cons rfl (fun K hK => ?hcA98) .nil)
                  (refine step_append_rd _ (by rfl) (.tmp 46) (.tmp 57) (by rfl) slStrR X2.heap.size (.slice oa j oc) _ _ (by rfl) (by exact how) _ _ _ _ (by rfl) (by exact rd_lit hLB rfl) (by intro u hu; simp at hu; subst hu; rfl) (by unfold maxLen; omega) (by omega) (Turned.size hHeld.2) ?_; intro v4 w4 hown4 hgr4 hat4 hnl4; obtain ⟨va4, vc4, rfl, _, _⟩ := (Rd.of_own hown4).form; have hsep4 := Sep.grown hsep hat4 hrr; have hrr := Sep.kept hsep hrr hgr4; have hq5 := (hgr4.block B5 (lt_of_block hq5) (fun e1 => by have := (how.lt B5 e1.symm).1; omega)).trans hq5; have hq4 := (hgr4.block B4 (lt_of_block hq4) (fun e1 => by have := (how.lt B4 e1.symm).1; omega)).trans hq4; have hk := And.intro (MkR.own hHeld.1 HM.out hgr4 (fun g hg => Nat.le_trans hsw2 (how.lt g hg).1)) (Turned.own hHeld.2 hgr4 (fun g hg => (how.lt g hg).1)); have fe := box_frozen hq5 2; obtain ⟨y0, y1, y2, y3, y4, y5, y6⟩ := quest_cells hq5; (try dsimp only))
                  refine hK.out _ _ ?sA98 (fun hA98 => ?tA98)
                  case sA98 => ((try dsimp only); (first | (with_reducible exact hHeld) | exact hk | exact And.intro hk.1.drew hk.2.drew))
                  replace hHeld := hA98; clear hK hA98
                  refine tkA (i := 14) (v := ?vA99) rfl (.inl ⟨by kernel_rfl, ?yA99⟩) (by assumption) ?rA99
                  case yA99 => (intro w hSw; first | (go_simp; done) | (go_simp; with_reducible rfl))
                  refine wpAnyH_ready (rs := [15]) (by kernel_rfl) (by simp) (.cons rfl (fun K hK => ?hcA100) .nil)
                  go_simp
                  refine hK.out _ _ ?sA100 (fun hA100 => ?tA100)
                  case sA100 => ((try dsimp only); (first | (with_reducible exact hHeld) | exact hk | exact And.intro hk.1.drew hk.2.drew | exact And.intro (hk.1.set HM.out HBB.out.2.1) (hk.2.setCell _ _ (.inr (.inr rfl))) | exact And.intro (hk.1.set HM.out HBB.out.2.1).drew (hk.2.setCell _ _ (.inr (.inr rfl))).drew))
                  replace hHeld := hA100; clear hK hA100
                  refine wpAnyH_done (by kernel_rfl) ?_ _
                  clear hHeld
                  refine NoPanic.normal ?_
                 case' hcA95 =>
                  go_simp
                  refine hK.out _ _ ?sA95 (fun hA95 => ?tA95)
                  case sA95 => ((try dsimp only); (first | (with_reducible exact hHeld) | exact hk | exact And.intro hk.1.drew hk.2.drew))
                  replace hHeld := hA95; clear hK hA95
                  refine wpAnyH_ready (rs := [1, 12]) (by kernel_rfl) (by simp) (.cons rfl (fun K hK => ?hcA101) (.cons rfl (fun K hK => ?hcA102) .nil))
                  case' hcA101 =>
                   go_simp
                   refine hK.out _ _ ?sA101 (fun hA101 => ?tA101)
                   case sA101 => ((try dsimp only); (first | (with_reducible exact hHeld) | exact hk | exact And.intro hk.1.drew hk.2.drew))
                   replace hHeld := hA101; clear hK hA101
                   refine wpAnyH_ready (rs := [12]) (by kernel_rfl) (by simp) (.cons rfl (fun K hK => ?hcA103) .nil)
                   go_simp
                   ((first | refine intro_alloc (fun XB hBX hLB => ?_) | refine intro_alloc_drew (fun XB hBX hLB => ?_)); have hq5 := below_push hBX hq5; have hq4 := below_push hBX hq4; have how := ownsRow_turned how (Turned.of_below (T := fun _ => False) hBX) (fun _ _ h => h); have hrr := ownsRow_turned hrr (Turned.of_below (T := fun _ => False) hBX) (fun _ _ h => h); have hk := And.intro (mkr_alloc (by first | exact hHeld.1 | exact undrew_mkr hHeld.1) hBX) (turned_alloc (by first | exact hHeld.2 | exact undrew_turned hHeld.2) hBX); obtain ⟨y0, y1, y2, y3, y4, y5, y6⟩ := quest_cells hq5; (try dsimp only))
                   refine hK.out _ _ ?sA103 (fun hA103 => ?tA103)
                   case sA103 => ((try dsimp only); (first | (with_reducible exact hHeld) | exact hk | exact And.intro hk.1.drew hk.2.drew))
                   replace hHeld := hA103; clear hK hA103
                   refine wpAnyH_ready (rs := [13]) (by kernel_rfl) (by simp) (.cons rfl (fun K hK => ?hcA104) .nil)
                   (refine step_append_rd _ (by rfl) (.tmp 46) (.tmp 57) (by rfl) slStrR X2.heap.size (.slice oa j oc) _ _ (by rfl) (by exact how) _ _ _ _ (by rfl) (by exact rd_lit hLB rfl) (by intro u hu; simp at hu; subst hu; rfl) (by unfold maxLen; omega) (by omega) (Turned.size hHeld.2) ?_; intro v4 w4 hown4 hgr4 hat4 hnl4; obtain ⟨va4, vc4, rfl, _, _⟩ := (Rd.of_own hown4).form; have hsep4 := Sep.grown hsep hat4 hrr; have hrr := Sep.kept hsep hrr hgr4; have hq5 := (hgr4.block B5 (lt_of_block hq5) (fun e1 => by have := (how.lt B5 e1.symm).1; omega)).trans hq5; have hq4 := (hgr4.block B4 (lt_of_block hq4) (fun e1 => by have := (how.lt B4 e1.symm).1; omega)).trans hq4; have hk := And.intro (MkR.own hHeld.1 HM.out hgr4 (fun g hg => Nat.le_trans hsw2 (how.lt g hg).1)) (Turned.own hHeld.2 hgr4 (fun g hg => (how.lt g hg).1)); have fe := box_frozen hq5 2; obtain ⟨y0, y1, y2, y3, y4, y5, y6⟩ := quest_cells hq5; (try dsimp only))
                   refine hK.out _ _ ?sA104 (fun hA104 => ?tA104)
                   case sA104 => ((try dsimp only); (first | (with_reducible exact hHeld) | exact hk | exact And.intro hk.1.drew hk.2.drew))
                   replace hHeld := hA104; clear hK hA104
                   refine tkA (i := 14) (v := ?vA105) rfl (.inl ⟨by kernel_rfl, ?yA105⟩) (by assumption) ?rA105
                   case yA105 => (intro w hSw; first | (go_simp; done) | (go_simp; with_reducible rfl))
                   refine wpAnyH_ready (rs := [15]) (by kernel_rfl) (by simp) (.cons rfl (fun K hK => ?hcA106) .nil)
                   go_simp
                   refine hK.out _ _ ?sA106 (fun hA106 => ?tA106)
                   case sA106 => ((try dsimp only); (first | (with_reducible exact hHeld) | exact hk | exact And.intro hk.1.drew hk.2.drew | exact And.intro (hk.1.set HM.out HBB.out.2.1) (hk.2.setCell _ _ (.inr (.inr rfl))) | exact And.intro (hk.1.set HM.out HBB.out.2.1).drew (hk.2.setCell _ _ (.inr (.inr rfl))).drew))
                   replace hHeld := hA106; clear hK hA106
                   refine wpAnyH_done (by kernel_rfl) ?_ _
                   clear hHeld
                   refine NoPanic.normal ?_
                  case' hcA102 =>
                   go_simp
                   ((first | refine intro_alloc (fun XB hBX hLB => ?_) | refine intro_alloc_drew (fun XB hBX hLB => ?_)); have hq5 := below_push hBX hq5; have hq4 := below_push hBX hq4; have how := ownsRow_turned how (Turned.of_below (T := fun _ => False) hBX) (fun _ _ h => h); have hrr := ownsRow_turned hrr (Turned.of_below (T := fun _ => False) hBX) (fun _ _ h => h); have hk := And.intro (mkr_alloc (by first | exact hHeld.1 | exact undrew_mkr hHeld.1) hBX) (turned_alloc (by first | exact hHeld.2 | exact undrew_turned hHeld.2) hBX); obtain ⟨y0, y1, y2, y3, y4, y5, y6⟩ := quest_cells hq5; (try dsimp only))
                   refine hK.out _ _ ?sA102 (fun hA102 => ?tA102)
                   case sA102 => ((try dsimp only); (first | (with_reducible exact hHeld) | exact hk | exact And.intro hk.1.drew hk.2.drew))
                   replace hHeld := hA102; clear hK hA102
                   refine wpAnyH_ready (rs := [1]) (by kernel_rfl) (by simp) (.cons rfl (fun K hK => ?hcA107) .nil)
                   go_simp
                   refine hK.out _ _ ?sA107 (fun hA107 => ?tA107)
                   case sA107 => ((try dsimp only); (first | (with_reducible exact hHeld) | exact hk | exact And.intro hk.1.drew hk.2.drew))
                   replace hHeld := hA107; clear hK hA107
                   refine wpAnyH_ready (rs := [13]) (by kernel_rfl) (by simp) (.cons rfl (fun K hK => ?hcA108) .nil)
                   (refine step_append_rd _ (by rfl) (.tmp 46) (.tmp 57) (by rfl) slStrR X2.heap.size (.slice oa j oc) _ _ (by rfl) (by exact how) _ _ _ _ (by rfl) (by exact rd_lit hLB rfl) (by intro u hu; simp at hu; subst hu; rfl) (by unfold maxLen; omega) (by omega) (Turned.size hHeld.2) ?_; intro v4 w4 hown4 hgr4 hat4 hnl4; obtain ⟨va4, vc4, rfl, _, _⟩ := (Rd.of_own hown4).form; have hsep4 := Sep.grown hsep hat4 hrr; have hrr := Sep.kept hsep hrr hgr4; have hq5 := (hgr4.block B5 (lt_of_block hq5) (fun e1 => by have := (how.lt B5 e1.symm).1; omega)).trans hq5; have hq4 := (hgr4.block B4 (lt_of_block hq4) (fun e1 => by have := (how.lt B4 e1.symm).1; omega)).trans hq4; have hk := And.intro (MkR.own hHeld.1 HM.out hgr4 (fun g hg => Nat.le_trans hsw2 (how.lt g hg).1)) (Turned.own hHeld.2 hgr4 (fun g hg => (how.lt g hg).1)); have fe := box_frozen hq5 2; obtain ⟨y0, y1, y2, y3, y4, y5, y6⟩ := quest_cells hq5; (try dsimp only))
                   refine hK.out _ _ ?sA108 (fun hA108 => ?tA108)
                   case sA108 => ((try dsimp only); (first | (with_reducible exact hHeld) | exact hk | exact And.intro hk.1.drew hk.2.drew))
                   replace hHeld := hA108; clear hK hA108
                   refine tkA (i := 14) (v := ?vA109) rfl (.inl ⟨by kernel_rfl, ?yA109⟩) (by assumption) ?rA109
                   case yA109 => (intro w hSw; first | (go_simp; done) | (go_simp; with_reducible rfl))
                   refine wpAnyH_ready (rs := [15]) (by kernel_rfl) (by simp) (.cons rfl (fun K hK => ?hcA110) .nil)
                   go_simp
                   refine hK.out _ _ ?sA110 (fun hA110 => ?tA110)
                   case sA110 => ((try dsimp only); (first | (with_reducible exact hHeld) | exact hk | exact And.intro hk.1.drew hk.2.drew | exact And.intro (hk.1.set HM.out HBB.out.2.1) (hk.2.setCell _ _ (.inr (.inr rfl))) | exact And.intro (hk.1.set HM.out HBB.out.2.1).drew (hk.2.setCell _ _ (.inr (.inr rfl))).drew))
                   replace hHeld := hA110; clear hK hA110
                   refine wpAnyH_done (by kernel_rfl) ?_ _
                   clear hHeld
                   refine NoPanic.normal ?_
              all_goals
                (try dsimp only [Exit.inBlock, Exit.then])
                refine hM3 _ _ ⟨rfl, rfl, by kernel_rfl, by kernel_rfl, by kernel_rfl, by kernel_rfl, by kernel_rfl, .slice va4 (j + 1) vc4, .slice pa j pc, _, _, hown4.kept (grownBy_setC w4 B5 2 _) (.inr (fun e1 => by have := (hown4.lt B5 e1).1; omega)), hrr.kept (grownBy_setC w4 B5 2 _) (.inr (fun e1 => by have := (hrr.lt B5 e1).1; omega)), hsep4, heap_set hq5 2 _, (Below.heap_setCell w4 ⟨B5, 2, none⟩ _ B4 HBB.out.2.2.symm).trans hq4, by first | exact hk.1.set HM.out HBB.out.2.1 | exact (hk.1.set HM.out HBB.out.2.1).drew, by first | exact hk.2.setCell _ _ (.inr (.inr rfl)) | exact (hk.2.setCell _ _ (.inr (.inr rfl))).drew⟩
            clear hq5 hq4 hrw hTq how hrr hsep
            rintro ⟨tm1, ds1⟩ W1 ⟨h82, hds, e0, e4, e5, e7, e8, ov, rv, xs, ys, how, hrr, hsep, hq5, hq4, hrw, hTq⟩
            simp only at h82 hds e0 e4 e5 e7 e8
            subst hds
            obtain ⟨oa, oc, rfl, _, _⟩ := (Rd.of_own how).form
            obtain ⟨pa, pc, rfl, _, _⟩ := (Rd.of_own hrr).form
            apply_assumption
            rw [frame82 tm1 [] h82, e0, e4, e5, e7, e8]
            clear h82 e0 e4 e5 e7 e8
            obtain ⟨y0, y1, y2, y3, y4, y5, y6⟩ := quest_cells hq5
            go_upto_region 15 with (fail)
            refine wp_region_noPanic (wp_region_held_drew (S := (fun Y => MkR P la lc l w Y ∧ Turned (fun b => b = P ∨ b = B5) X2 Y)) (by kernel_rfl) ?hSB (fun hHeld => ?hRB))
            case hSB => ((try dsimp only); (first | exact And.intro hrw hTq | exact And.intro hrw.drew hTq.drew))
            refine tkA (i := 0) (v := ?vB1) rfl (.inl ⟨by kernel_rfl, ?yB1⟩) (by assumption) ?rB1
            case yB1 => (intro w hSw; first | (go_simp; done) | (go_simp; with_reducible rfl))
            refine tkA (i := 3) (v := ?vB2) rfl (.inl ⟨by kernel_rfl, ?yB2⟩) (by assumption) ?rB2
            case yB2 => (intro w hSw; first | (go_simp; done) | (go_simp; with_reducible rfl))
            refine wpAnyH_ready (rs := [1, 2, 4]) (by kernel_rfl) (by simp) (.cons rfl (fun K hK => ?hcB3) (.cons rfl (fun K hK => ?hcB4) (.cons rfl (fun K hK => ?hcB5) .nil)))
            case' hcB3 =>
             go_simp
             refine hK.out _ _ ?sB3 (fun hB3 => ?tB3)
             case sB3 => ((try dsimp only); (first | (with_reducible exact hHeld) | exact hk | exact And.intro hk.1.drew hk.2.drew))
             replace hHeld := hB3; clear hK hB3
             refine wpAnyH_ready (rs := [2, 4]) (by kernel_rfl) (by simp) (.cons rfl (fun K hK => ?hcB6) (.cons rfl (fun K hK => ?hcB7) .nil))
             case' hcB6 =>
              go_simp
              (have hgA := Nat.ne_of_gt (Nat.lt_of_lt_of_le hP (MkR.size hHeld.1)); (first | refine intro_alloc (fun XA hBX hLA => ?_) | refine intro_alloc_drew (fun XA hBX hLA => ?_)); have hq5 := below_push hBX hq5; have hq4 := below_push hBX hq4; have how := ownsRow_turned how (Turned.of_below (T := fun _ => False) hBX) (fun _ _ h => h); have hrr := ownsRow_turned hrr (Turned.of_below (T := fun _ => False) hBX) (fun _ _ h => h); have hk := And.intro (mkr_alloc (by first | exact hHeld.1 | exact undrew_mkr hHeld.1) hBX) (turned_alloc (by first | exact hHeld.2 | exact undrew_turned hHeld.2) hBX); obtain ⟨y0, y1, y2, y3, y4, y5, y6⟩ := quest_cells hq5; (first | (have hget := lit_get (p := fun v => ∃ s : ByteArray, v = .string s) hLA (by simp) (z := zn) (by simp <;> omega); obtain ⟨v, hcL, sL, rfl⟩ := hget) | skip); (try dsimp only))
              refine hK.out _ _ ?sB6 (fun hB6 => ?tB6)
              case sB6 => ((try dsimp only); (first | (with_reducible exact hHeld) | exact hk | exact And.intro hk.1.drew hk.2.drew))
              replace hHeld := hB6; clear hK hB6
              refine wpAnyH_ready (rs := [4]) (by kernel_rfl) (by simp) (.cons rfl (fun K hK => ?hcB8) .nil)
              go_simp
              (go_at_call 52; refine (HTW.out _ _ hHeld.1).mono ?_; rintro e wt ⟨⟨zt, rfl, hz0, hz1, _⟩, hrt⟩; obtain ⟨zn, rfl⟩ : ∃ zn : Nat, zt = (zn : Int) := ⟨zt.toNat, by omega⟩; have hz2 : (zn : Int) < 3 := hz1 (by decide); have hq5 := hrt.box hq5 hB5P; have hq4 := hrt.box hq4 hB4P; have how := hrt.row how (by omega); have hrr := hrt.row hrr (by omega); have hk := And.intro (MkR.trans hHeld.1 hrt) (hHeld.2.trans (hrt.2.mono (fun _ _ h => .inl h))); obtain ⟨y0, y1, y2, y3, y4, y5, y6⟩ := quest_cells hq5; (first | (have hLA := hrt.box hLA hgA) | skip); (first | (have hget := lit_get (p := fun v => ∃ s : ByteArray, v = .string s) hLA (by simp) (z := zn) (by simp <;> omega); obtain ⟨v, hcL, sL, rfl⟩ := hget) | skip); (try dsimp only))
              refine hK.out _ _ ?sB8 (fun hB8 => ?tB8)
              case sB8 => ((try dsimp only); (first | (with_reducible exact hHeld) | exact hk | exact And.intro hk.1.drew hk.2.drew))
              replace hHeld := hB8; clear hK hB8
              refine tkA (i := 5) (v := ?vB9) rfl (.inl ⟨by kernel_rfl, ?yB9⟩) (by assumption) ?rB9
              case yB9 => (intro w hSw; first | (go_simp; done) | (go_simp; with_reducible rfl))
              refine wpAnyH_ready (rs := [6]) (by kernel_rfl) (by simp) (.cons rfl (fun K hK => ?hcB10) .nil)
              go_simp
              refine hK.out _ _ ?sB10 (fun hB10 => ?tB10)
              case sB10 => ((try dsimp only); (first | (with_reducible exact hHeld) | exact hk | exact And.intro hk.1.drew hk.2.drew))
              replace hHeld := hB10; clear hK hB10
              refine wpAnyH_ready (rs := [7]) (by kernel_rfl) (by simp) (.cons rfl (fun K hK => ?hcB11) .nil)
              go_simp
              ((first | refine intro_alloc (fun XB hBX hLB => ?_) | refine intro_alloc_drew (fun XB hBX hLB => ?_)); have hq5 := below_push hBX hq5; have hq4 := below_push hBX hq4; have how := ownsRow_turned how (Turned.of_below (T := fun _ => False) hBX) (fun _ _ h => h); have hrr := ownsRow_turned hrr (Turned.of_below (T := fun _ => False) hBX) (fun _ _ h => h); have hk := And.intro (mkr_alloc (by first | exact hHeld.1 | exact undrew_mkr hHeld.1) hBX) (turned_alloc (by first | exact hHeld.2 | exact undrew_turned hHeld.2) hBX); obtain ⟨y0, y1, y2, y3, y4, y5, y6⟩ := quest_cells hq5; (try dsimp only))
              refine hK.out _ _ ?sB11 (fun hB11 => ?tB11)
              case sB11 => ((try dsimp only); (first | (with_reducible exact hHeld) | exact hk | exact And.intro hk.1.drew hk.2.drew))
              replace hHeld := hB11; clear hK hB11
              refine wpAnyH_ready (rs := [8]) (by kernel_rfl) (by simp) (.cons rfl (fun K hK => ?hcB12) .nil)
              (refine step_append_rd _ (by rfl) (.tmp 61) (.tmp 67) (by rfl) slStrR X2.heap.size (.slice pa j pc) _ _ (by rfl) (by exact hrr) _ _ _ _ (by rfl) (by exact rd_lit hLB rfl) (by intro u hu; simp at hu; subst hu; rfl) (by unfold maxLen; omega) (by omega) (Turned.size hHeld.2) ?_; intro v4 w4 hown4 hgr4 hat4 hnl4; obtain ⟨va4, vc4, rfl, _, _⟩ := (Rd.of_own hown4).form; have hsep4 := Sep.grown (Sep.symm hsep) hat4 how; have how := Sep.kept (Sep.symm hsep) how hgr4; have hq5 := (hgr4.block B5 (lt_of_block hq5) (fun e1 => by have := (hrr.lt B5 e1.symm).1; omega)).trans hq5; have hq4 := (hgr4.block B4 (lt_of_block hq4) (fun e1 => by have := (hrr.lt B4 e1.symm).1; omega)).trans hq4; have hk := And.intro (MkR.own hHeld.1 HM.out hgr4 (fun g hg => Nat.le_trans hsw2 (hrr.lt g hg).1)) (Turned.own hHeld.2 hgr4 (fun g hg => (hrr.lt g hg).1)); have fe := box_frozen hq5 6; obtain ⟨y0, y1, y2, y3, y4, y5, y6⟩ := quest_cells hq5; (try dsimp only))
              refine hK.out _ _ ?sB12 (fun hB12 => ?tB12)
              case sB12 => ((try dsimp only); (first | (with_reducible exact hHeld) | exact hk | exact And.intro hk.1.drew hk.2.drew))
              replace hHeld := hB12; clear hK hB12
              refine tkA (i := 9) (v := ?vB13) rfl (.inl ⟨by kernel_rfl, ?yB13⟩) (by assumption) ?rB13
              case yB13 => (intro w hSw; first | (go_simp; done) | (go_simp; with_reducible rfl))
              refine wpAnyH_ready (rs := [10]) (by kernel_rfl) (by simp) (.cons rfl (fun K hK => ?hcB14) .nil)
              go_simp
              refine hK.out _ _ ?sB14 (fun hB14 => ?tB14)
              case sB14 => ((try dsimp only); (first | (with_reducible exact hHeld) | exact hk | exact And.intro hk.1.drew hk.2.drew | exact And.intro (hk.1.set HM.out HBB.out.2.1) (hk.2.setCell _ _ (.inr (.inr rfl))) | exact And.intro (hk.1.set HM.out HBB.out.2.1).drew (hk.2.setCell _ _ (.inr (.inr rfl))).drew))
              replace hHeld := hB14; clear hK hB14
              refine wpAnyH_done (by kernel_rfl) ?_ _
              clear hHeld
              refine NoPanic.normal ?_
             case' hcB7 =>
              go_simp
              (go_at_call 52; refine (HTW.out _ _ hHeld.1).mono ?_; rintro e wt ⟨⟨zt, rfl, hz0, hz1, _⟩, hrt⟩; obtain ⟨zn, rfl⟩ : ∃ zn : Nat, zt = (zn : Int) := ⟨zt.toNat, by omega⟩; have hz2 : (zn : Int) < 3 := hz1 (by decide); have hq5 := hrt.box hq5 hB5P; have hq4 := hrt.box hq4 hB4P; have how := hrt.row how (by omega); have hrr := hrt.row hrr (by omega); have hk := And.intro (MkR.trans hHeld.1 hrt) (hHeld.2.trans (hrt.2.mono (fun _ _ h => .inl h))); obtain ⟨y0, y1, y2, y3, y4, y5, y6⟩ := quest_cells hq5; (first | (have hLA := hrt.box hLA hgA) | skip); (first | (have hget := lit_get (p := fun v => ∃ s : ByteArray, v = .string s) hLA (by simp) (z := zn) (by simp <;> omega); obtain ⟨v, hcL, sL, rfl⟩ := hget) | skip); (try dsimp only))
              refine hK.out _ _ ?sB7 (fun hB7 => ?tB7)
              case sB7 => ((try dsimp only); (first | (with_reducible exact hHeld) | exact hk | exact And.intro hk.1.drew hk.2.drew))
              replace hHeld := hB7; clear hK hB7
              refine wpAnyH_ready (rs := [2]) (by kernel_rfl) (by simp) (.cons rfl (fun K hK => ?hcB15) .nil)
              go_simp
              (have hgA := Nat.ne_of_gt (Nat.lt_of_lt_of_le hP (MkR.size hHeld.1)); (first | refine intro_alloc (fun XA hBX hLA => ?_) | refine intro_alloc_drew (fun XA hBX hLA => ?_)); have hq5 := below_push hBX hq5; have hq4 := below_push hBX hq4; have how := ownsRow_turned how (Turned.of_below (T := fun _ => False) hBX) (fun _ _ h => h); have hrr := ownsRow_turned hrr (Turned.of_below (T := fun _ => False) hBX) (fun _ _ h => h); have hk := And.intro (mkr_alloc (by first | exact hHeld.1 | exact undrew_mkr hHeld.1) hBX) (turned_alloc (by first | exact hHeld.2 | exact undrew_turned hHeld.2) hBX); obtain ⟨y0, y1, y2, y3, y4, y5, y6⟩ := quest_cells hq5; (first | (have hget := lit_get (p := fun v => ∃ s : ByteArray, v = .string s) hLA (by simp) (z := zn) (by simp <;> omega); obtain ⟨v, hcL, sL, rfl⟩ := hget) | skip); (try dsimp only))
              refine hK.out _ _ ?sB15 (fun hB15 => ?tB15)
              case sB15 => ((try dsimp only); (first | (with_reducible exact hHeld) | exact hk | exact And.intro hk.1.drew hk.2.drew))
              replace hHeld := hB15; clear hK hB15
              refine tkA (i := 5) (v := ?vB16) rfl (.inl ⟨by kernel_rfl, ?yB16⟩) (by assumption) ?rB16
              case yB16 => (intro w hSw; first | (go_simp; done) | (go_simp; with_reducible rfl))
              refine wpAnyH_ready (rs := [6]) (by kernel_rfl) (by simp) (.cons rfl (fun K hK => ?hcB17) .nil)
              go_simp
              refine hK.out _ _ ?sB17 (fun hB17 => ?tB17)
              case sB17 => ((try dsimp only); (first | (with_reducible exact hHeld) | exact hk | exact And.intro hk.1.drew hk.2.drew))
              replace hHeld := hB17; clear hK hB17
              refine wpAnyH_ready (rs := [7]) (by kernel_rfl) (by simp) (.cons rfl (fun K hK => ?hcB18) .nil)
              go_simp
              ((first | refine intro_alloc (fun XB hBX hLB => ?_) | refine intro_alloc_drew (fun XB hBX hLB => ?_)); have hq5 := below_push hBX hq5; have hq4 := below_push hBX hq4; have how := ownsRow_turned how (Turned.of_below (T := fun _ => False) hBX) (fun _ _ h => h); have hrr := ownsRow_turned hrr (Turned.of_below (T := fun _ => False) hBX) (fun _ _ h => h); have hk := And.intro (mkr_alloc (by first | exact hHeld.1 | exact undrew_mkr hHeld.1) hBX) (turned_alloc (by first | exact hHeld.2 | exact undrew_turned hHeld.2) hBX); obtain ⟨y0, y1, y2, y3, y4, y5, y6⟩ := quest_cells hq5; (try dsimp only))
              refine hK.out _ _ ?sB18 (fun hB18 => ?tB18)
              case sB18 => ((try dsimp only); (first | (with_reducible exact hHeld) | exact hk | exact And.intro hk.1.drew hk.2.drew))
              replace hHeld := hB18; clear hK hB18
              refine wpAnyH_ready (rs := [8]) (by kernel_rfl) (by simp) (.cons rfl (fun K hK => ?hcB19) .nil)
              (refine step_append_rd _ (by rfl) (.tmp 61) (.tmp 67) (by rfl) slStrR X2.heap.size (.slice pa j pc) _ _ (by rfl) (by exact hrr) _ _ _ _ (by rfl) (by exact rd_lit hLB rfl) (by intro u hu; simp at hu; subst hu; rfl) (by unfold maxLen; omega) (by omega) (Turned.size hHeld.2) ?_; intro v4 w4 hown4 hgr4 hat4 hnl4; obtain ⟨va4, vc4, rfl, _, _⟩ := (Rd.of_own hown4).form; have hsep4 := Sep.grown (Sep.symm hsep) hat4 how; have how := Sep.kept (Sep.symm hsep) how hgr4; have hq5 := (hgr4.block B5 (lt_of_block hq5) (fun e1 => by have := (hrr.lt B5 e1.symm).1; omega)).trans hq5; have hq4 := (hgr4.block B4 (lt_of_block hq4) (fun e1 => by have := (hrr.lt B4 e1.symm).1; omega)).trans hq4; have hk := And.intro (MkR.own hHeld.1 HM.out hgr4 (fun g hg => Nat.le_trans hsw2 (hrr.lt g hg).1)) (Turned.own hHeld.2 hgr4 (fun g hg => (hrr.lt g hg).1)); have fe := box_frozen hq5 6; obtain ⟨y0, y1, y2, y3, y4, y5, y6⟩ := quest_cells hq5; (try dsimp only))
              refine hK.out _ _ ?sB19 (fun hB19 => ?tB19)
              case sB19 => ((try dsimp only); (first | (with_reducible exact hHeld) | exact hk | exact And.intro hk.1.drew hk.2.drew))
              replace hHeld := hB19; clear hK hB19
              refine tkA (i := 9) (v := ?vB20) rfl (.inl ⟨by kernel_rfl, ?yB20⟩) (by assumption) ?rB20
              case yB20 => (intro w hSw; first | (go_simp; done) | (go_simp; with_reducible rfl))
              refine wpAnyH_ready (rs := [10]) (by kernel_rfl) (by simp) (.cons rfl (fun K hK => ?hcB21) .nil)
              go_simp
              refine hK.out _ _ ?sB21 (fun hB21 => ?tB21)
              case sB21 => ((try dsimp only); (first | (with_reducible exact hHeld) | exact hk | exact And.intro hk.1.drew hk.2.drew | exact And.intro (hk.1.set HM.out HBB.out.2.1) (hk.2.setCell _ _ (.inr (.inr rfl))) | exact And.intro (hk.1.set HM.out HBB.out.2.1).drew (hk.2.setCell _ _ (.inr (.inr rfl))).drew))
              replace hHeld := hB21; clear hK hB21
              refine wpAnyH_done (by kernel_rfl) ?_ _
              clear hHeld
              refine NoPanic.normal ?_
            case' hcB4 =>
             go_simp
             (have hgA := Nat.ne_of_gt (Nat.lt_of_lt_of_le hP (MkR.size hHeld.1)); (first | refine intro_alloc (fun XA hBX hLA => ?_) | refine intro_alloc_drew (fun XA hBX hLA => ?_)); have hq5 := below_push hBX hq5; have hq4 := below_push hBX hq4; have how := ownsRow_turned how (Turned.of_below (T := fun _ => False) hBX) (fun _ _ h => h); have hrr := ownsRow_turned hrr (Turned.of_below (T := fun _ => False) hBX) (fun _ _ h => h); have hk := And.intro (mkr_alloc (by first | exact hHeld.1 | exact undrew_mkr hHeld.1) hBX) (turned_alloc (by first | exact hHeld.2 | exact undrew_turned hHeld.2) hBX); obtain ⟨y0, y1, y2, y3, y4, y5, y6⟩ := quest_cells hq5; (first | (have hget := lit_get (p := fun v => ∃ s : ByteArray, v = .string s) hLA (by simp) (z := zn) (by simp <;> omega); obtain ⟨v, hcL, sL, rfl⟩ := hget) | skip); (try dsimp only))
             refine hK.out _ _ ?sB4 (fun hB4 => ?tB4)
             case sB4 => ((try dsimp only); (first | (with_reducible exact hHeld) | exact hk | exact And.intro hk.1.drew hk.2.drew))
             replace hHeld := hB4; clear hK hB4
             refine wpAnyH_ready (rs := [1, 4]) (by kernel_rfl) (by simp) (.cons rfl (fun K hK => ?hcB22) (.cons rfl (fun K hK => ?hcB23) .nil))
             case' hcB22 =>
              go_simp
              refine hK.out _ _ ?sB22 (fun hB22 => ?tB22)
              case sB22 => ((try dsimp only); (first | (with_reducible exact hHeld) | exact hk | exact And.intro hk.1.drew hk.2.drew))
              replace hHeld := hB22; clear hK hB22
              refine wpAnyH_ready (rs := [4]) (by kernel_rfl) (by simp) (.cons rfl (fun K hK => ?hcB24) .nil)
              go_simp
              (go_at_call 52; refine (HTW.out _ _ hHeld.1).mono ?_; rintro e wt ⟨⟨zt, rfl, hz0, hz1, _⟩, hrt⟩; obtain ⟨zn, rfl⟩ : ∃ zn : Nat, zt = (zn : Int) := ⟨zt.toNat, by omega⟩; have hz2 : (zn : Int) < 3 := hz1 (by decide); have hq5 := hrt.box hq5 hB5P; have hq4 := hrt.box hq4 hB4P; have how := hrt.row how (by omega); have hrr := hrt.row hrr (by omega); have hk := And.intro (MkR.trans hHeld.1 hrt) (hHeld.2.trans (hrt.2.mono (fun _ _ h => .inl h))); obtain ⟨y0, y1, y2, y3, y4, y5, y6⟩ := quest_cells hq5; (first | (have hLA := hrt.box hLA hgA) | skip); (first | (have hget := lit_get (p := fun v => ∃ s : ByteArray, v = .string s) hLA (by simp) (z := zn) (by simp <;> omega); obtain ⟨v, hcL, sL, rfl⟩ := hget) | skip); (try dsimp only))
              refine hK.out _ _ ?sB24 (fun hB24 => ?tB24)
              case sB24 => ((try dsimp only); (first | (with_reducible exact hHeld) | exact hk | exact And.intro hk.1.drew hk.2.drew))
              replace hHeld := hB24; clear hK hB24
              refine tkA (i := 5) (v := ?vB25) rfl (.inl ⟨by kernel_rfl, ?yB25⟩) (by assumption) ?rB25
              case yB25 => (intro w hSw; first | (go_simp; done) | (go_simp; with_reducible rfl))
              refine wpAnyH_ready (rs := [6]) (by kernel_rfl) (by simp) (.cons rfl (fun K hK => ?hcB26) .nil)
              go_simp
              refine hK.out _ _ ?sB26 (fun hB26 => ?tB26)
              case sB26 => ((try dsimp only); (first | (with_reducible exact hHeld) | exact hk | exact And.intro hk.1.drew hk.2.drew))
              replace hHeld := hB26; clear hK hB26
              refine wpAnyH_ready (rs := [7]) (by kernel_rfl) (by simp) (.cons rfl (fun K hK => ?hcB27) .nil)
              go_simp
              ((first | refine intro_alloc (fun XB hBX hLB => ?_) | refine intro_alloc_drew (fun XB hBX hLB => ?_)); have hq5 := below_push hBX hq5; have hq4 := below_push hBX hq4; have how := ownsRow_turned how (Turned.of_below (T := fun _ => False) hBX) (fun _ _ h => h); have hrr := ownsRow_turned hrr (Turned.of_below (T := fun _ => False) hBX) (fun _ _ h => h); have hk := And.intro (mkr_alloc (by first | exact hHeld.1 | exact undrew_mkr hHeld.1) hBX) (turned_alloc (by first | exact hHeld.2 | exact undrew_turned hHeld.2) hBX); obtain ⟨y0, y1, y2, y3, y4, y5, y6⟩ := quest_cells hq5; (try dsimp only))
              refine hK.out _ _ ?sB27 (fun hB27 => ?tB27)
              case sB27 => ((try dsimp only); (first | (with_reducible exact hHeld) | exact hk | exact And.intro hk.1.drew hk.2.drew))
              replace hHeld := hB27; clear hK hB27
              refine wpAnyH_ready (rs := [8]) (by kernel_rfl) (by simp) (.cons rfl (fun K hK => ?hcB28) .nil)
              (refine step_append_rd _ (by rfl) (.tmp 61) (.tmp 67) (by rfl) slStrR X2.heap.size (.slice pa j pc) _ _ (by rfl) (by exact hrr) _ _ _ _ (by rfl) (by exact rd_lit hLB rfl) (by intro u hu; simp at hu; subst hu; rfl) (by unfold maxLen; omega) (by omega) (Turned.size hHeld.2) ?_; intro v4 w4 hown4 hgr4 hat4 hnl4; obtain ⟨va4, vc4, rfl, _, _⟩ := (Rd.of_own hown4).form; have hsep4 := Sep.grown (Sep.symm hsep) hat4 how; have how := Sep.kept (Sep.symm hsep) how hgr4; have hq5 := (hgr4.block B5 (lt_of_block hq5) (fun e1 => by have := (hrr.lt B5 e1.symm).1; omega)).trans hq5; have hq4 := (hgr4.block B4 (lt_of_block hq4) (fun e1 => by have := (hrr.lt B4 e1.symm).1; omega)).trans hq4; have hk := And.intro (MkR.own hHeld.1 HM.out hgr4 (fun g hg => Nat.le_trans hsw2 (hrr.lt g hg).1)) (Turned.own hHeld.2 hgr4 (fun g hg => (hrr.lt g hg).1)); have fe := box_frozen hq5 6; obtain ⟨y0, y1, y2, y3, y4, y5, y6⟩ := quest_cells hq5; (try dsimp only))
              refine hK.out _ _ ?sB28 (fun hB28 => ?tB28)
              case sB28 => ((try dsimp only); (first | (with_reducible exact hHeld) | exact hk | exact And.intro hk.1.drew hk.2.drew))
              replace hHeld := hB28; clear hK hB28
              refine tkA (i := 9) (v := ?vB29) rfl (.inl ⟨by kernel_rfl, ?yB29⟩) (by assumption) ?rB29
              case yB29 => (intro w hSw; first | (go_simp; done) | (go_simp; with_reducible rfl))
              refine wpAnyH_ready (rs := [10]) (by kernel_rfl) (by simp) (.cons rfl (fun K hK => ?hcB30) .nil)
              go_simp
              refine hK.out _ _ ?sB30 (fun hB30 => ?tB30)
              case sB30 => ((try dsimp only); (first | (with_reducible exact hHeld) | exact hk | exact And.intro hk.1.drew hk.2.drew | exact And.intro (hk.1.set HM.out HBB.out.2.1) (hk.2.setCell _ _ (.inr (.inr rfl))) | exact And.intro (hk.1.set HM.out HBB.out.2.1).drew (hk.2.setCell _ _ (.inr (.inr rfl))).drew))
              replace hHeld := hB30; clear hK hB30
              refine wpAnyH_done (by kernel_rfl) ?_ _
              clear hHeld
              refine NoPanic.normal ?_
             case' hcB23 =>
              go_simp
              (go_at_call 52; refine (HTW.out _ _ hHeld.1).mono ?_; rintro e wt ⟨⟨zt, rfl, hz0, hz1, _⟩, hrt⟩; obtain ⟨zn, rfl⟩ : ∃ zn : Nat, zt = (zn : Int) := ⟨zt.toNat, by omega⟩; have hz2 : (zn : Int) < 3 := hz1 (by decide); have hq5 := hrt.box hq5 hB5P; have hq4 := hrt.box hq4 hB4P; have how := hrt.row how (by omega); have hrr := hrt.row hrr (by omega); have hk := And.intro (MkR.trans hHeld.1 hrt) (hHeld.2.trans (hrt.2.mono (fun _ _ h => .inl h))); obtain ⟨y0, y1, y2, y3, y4, y5, y6⟩ := quest_cells hq5; (first | (have hLA := hrt.box hLA hgA) | skip); (first | (have hget := lit_get (p := fun v => ∃ s : ByteArray, v = .string s) hLA (by simp) (z := zn) (by simp <;> omega); obtain ⟨v, hcL, sL, rfl⟩ := hget) | skip); (try dsimp only))
              refine hK.out _ _ ?sB23 (fun hB23 => ?tB23)
              case sB23 => ((try dsimp only); (first | (with_reducible exact hHeld) | exact hk | exact And.intro hk.1.drew hk.2.drew))
              replace hHeld := hB23; clear hK hB23
              refine tkA (i := 5) (v := ?vB31) rfl (.inl ⟨by kernel_rfl, ?yB31⟩) (by assumption) ?rB31
              case yB31 => (intro w hSw; first | (go_simp; done) | (go_simp; with_reducible rfl))
              refine wpAnyH_ready (rs := [1, 6]) (by kernel_rfl) (by simp) (.cons rfl (fun K hK => ?hcB32) (.cons rfl (fun K hK => ?hcB33) .nil))
              case' hcB32 =>
               go_simp
               refine hK.out _ _ ?sB32 (fun hB32 => ?tB32)
               case sB32 => ((try dsimp only); (first | (with_reducible exact hHeld) | exact hk | exact And.intro hk.1.drew hk.2.drew))
               replace hHeld := hB32; clear hK hB32
               refine wpAnyH_ready (rs := [6]) (by kernel_rfl) (by simp) (.cons rfl (fun K hK => ?hcB34) .nil)
               go_simp
               refine hK.out _ _ ?sB34 (fun hB34 => ?tB34)
               case sB34 => ((try dsimp only); (first | (with_reducible exact hHeld) | exact hk | exact And.intro hk.1.drew hk.2.drew))
               replace hHeld := hB34; clear hK hB34
               refine wpAnyH_ready (rs := [7]) (by kernel_rfl) (by simp) (.cons rfl (fun K hK => ?hcB35) .nil)
               go_simp
               ((first | refine intro_alloc (fun XB hBX hLB => ?_) | refine intro_alloc_drew (fun XB hBX hLB => ?_)); have hq5 := below_push hBX hq5; have hq4 := below_push hBX hq4; have how := ownsRow_turned how (Turned.of_below (T := fun _ => False) hBX) (fun _ _ h => h); have hrr := ownsRow_turned hrr (Turned.of_below (T := fun _ => False) hBX) (fun _ _ h => h); have hk := And.intro (mkr_alloc (by first | exact hHeld.1 | exact undrew_mkr hHeld.1) hBX) (turned_alloc (by first | exact hHeld.2 | exact undrew_turned hHeld.2) hBX); obtain ⟨y0, y1, y2, y3, y4, y5, y6⟩ := quest_cells hq5; (try dsimp only))
               refine hK.out _ _ ?sB35 (fun hB35 => ?tB35)
               case sB35 => ((try dsimp only); (first | (with_reducible exact hHeld) | exact hk | exact And.intro hk.1.drew hk.2.drew))
               replace hHeld := hB35; clear hK hB35
               refine wpAnyH_ready (rs := [8]) (by kernel_rfl) (by simp) (.cons rfl (fun K hK => ?hcB36) .nil)
               (refine step_append_rd _ (by rfl) (.tmp 61) (.tmp 67) (by rfl) slStrR X2.heap.size (.slice pa j pc) _ _ (by rfl) (by exact hrr) _ _ _ _ (by rfl) (by exact rd_lit hLB rfl) (by intro u hu; simp at hu; subst hu; rfl) (by unfold maxLen; omega) (by omega) (Turned.size hHeld.2) ?_; intro v4 w4 hown4 hgr4 hat4 hnl4; obtain ⟨va4, vc4, rfl, _, _⟩ := (Rd.of_own hown4).form; have hsep4 := Sep.grown (Sep.symm hsep) hat4 how; have how := Sep.kept (Sep.symm hsep) how hgr4; have hq5 := (hgr4.block B5 (lt_of_block hq5) (fun e1 => by have := (hrr.lt B5 e1.symm).1; omega)).trans hq5; have hq4 := (hgr4.block B4 (lt_of_block hq4) (fun e1 => by have := (hrr.lt B4 e1.symm).1; omega)).trans hq4; have hk := And.intro (MkR.own hHeld.1 HM.out hgr4 (fun g hg => Nat.le_trans hsw2 (hrr.lt g hg).1)) (Turned.own hHeld.2 hgr4 (fun g hg => (hrr.lt g hg).1)); have fe := box_frozen hq5 6; obtain ⟨y0, y1, y2, y3, y4, y5, y6⟩ := quest_cells hq5; (try dsimp only))
               refine hK.out _ _ ?sB36 (fun hB36 => ?tB36)
               case sB36 => ((try dsimp only); (first | (with_reducible exact hHeld) | exact hk | exact And.intro hk.1.drew hk.2.drew))
               replace hHeld := hB36; clear hK hB36
               refine tkA (i := 9) (v := ?vB37) rfl (.inl ⟨by kernel_rfl, ?yB37⟩) (by assumption) ?rB37
               case yB37 => (intro w hSw; first | (go_simp; done) | (go_simp; with_reducible rfl))
               refine wpAnyH_ready (rs := [10]) (by kernel_rfl) (by simp) (.cons rfl (fun K hK => ?hcB38) .nil)
               go_simp
               refine hK.out _ _ ?sB38 (fun hB38 => ?tB38)
               case sB38 => ((try dsimp only); (first | (with_reducible exact hHeld) | exact hk | exact And.intro hk.1.drew hk.2.drew | exact And.intro (hk.1.set HM.out HBB.out.2.1) (hk.2.setCell _ _ (.inr (.inr rfl))) | exact And.intro (hk.1.set HM.out HBB.out.2.1).drew (hk.2.setCell _ _ (.inr (.inr rfl))).drew))
               replace hHeld := hB38; clear hK hB38
               refine wpAnyH_done (by kernel_rfl) ?_ _
               clear hHeld
               refine NoPanic.normal ?_
              case' hcB33 =>
               go_simp
               refine hK.out _ _ ?sB33 (fun hB33 => ?tB33)
               case sB33 => ((try dsimp only); (first | (with_reducible exact hHeld) | exact hk | exact And.intro hk.1.drew hk.2.drew))
               replace hHeld := hB33; clear hK hB33
               refine wpAnyH_ready (rs := [1, 7]) (by kernel_rfl) (by simp) (.cons rfl (fun K hK => ?hcB39) (.cons rfl (fun K hK => ?hcB40) .nil))
               case' hcB39 =>
                go_simp
                refine hK.out _ _ ?sB39 (fun hB39 => ?tB39)
                case sB39 => ((try dsimp only); (first | (with_reducible exact hHeld) | exact hk | exact And.intro hk.1.drew hk.2.drew))
                replace hHeld := hB39; clear hK hB39
                refine wpAnyH_ready (rs := [7]) (by kernel_rfl) (by simp) (.cons rfl (fun K hK => ?hcB41) .nil)
                go_simp
                ((first | refine intro_alloc (fun XB hBX hLB => ?_) | refine intro_alloc_drew (fun XB hBX hLB => ?_)); have hq5 := below_push hBX hq5; have hq4 := below_push hBX hq4; have how := ownsRow_turned how (Turned.of_below (T := fun _ => False) hBX) (fun _ _ h => h); have hrr := ownsRow_turned hrr (Turned.of_below (T := fun _ => False) hBX) (fun _ _ h => h); have hk := And.intro (mkr_alloc (by first | exact hHeld.1 | exact undrew_mkr hHeld.1) hBX) (turned_alloc (by first | exact hHeld.2 | exact undrew_turned hHeld.2) hBX); obtain ⟨y0, y1, y2, y3, y4, y5, y6⟩ := quest_cells hq5; (try dsimp only))
                refine hK.out _ _ ?sB41 (fun hB41 => ?tB41)
                case sB41 => ((try dsimp only); (first | (with_reducible exact hHeld) | exact hk | exact And.intro hk.1.drew hk.2.drew))
                replace hHeld := hB41; clear hK hB41
                refine wpAnyH_ready (rs := [8]) (by kernel_rfl) (by simp) (.cons rfl (fun K hK => ?hcB42) .nil)
                (refine step_append_rd _ (by rfl) (.tmp 61) (.tmp 67) (by rfl) slStrR X2.heap.size (.slice pa j pc) _ _ (by rfl) (by exact hrr) _ _ _ _ (by rfl) (by exact rd_lit hLB rfl) (by intro u hu; simp at hu; subst hu; rfl) (by unfold maxLen; omega) (by omega) (Turned.size hHeld.2) ?_; intro v4 w4 hown4 hgr4 hat4 hnl4; obtain ⟨va4, vc4, rfl, _, _⟩ := (Rd.of_own hown4).form; have hsep4 := Sep.grown (Sep.symm hsep) hat4 how; have how := Sep.kept (Sep.symm hsep) how hgr4; have hq5 := (hgr4.block B5 (lt_of_block hq5) (fun e1 => by have := (hrr.lt B5 e1.symm).1; omega)).trans hq5; have hq4 := (hgr4.block B4 (lt_of_block hq4) (fun e1 => by have := (hrr.lt B4 e1.symm).1; omega)).trans hq4; have hk := And.intro (MkR.own hHeld.1 HM.out hgr4 (fun g hg => Nat.le_trans hsw2 (hrr.lt g hg).1)) (Turned.own hHeld.2 hgr4 (fun g hg => (hrr.lt g hg).1)); have fe := box_frozen hq5 6; obtain ⟨y0, y1, y2, y3, y4, y5, y6⟩ := quest_cells hq5; (try dsimp only))
                refine hK.out _ _ ?sB42 (fun hB42 => ?tB42)
                case sB42 => ((try dsimp only); (first | (with_reducible exact hHeld) | exact hk | exact And.intro hk.1.drew hk.2.drew))
                replace hHeld := hB42; clear hK hB42
                refine tkA (i := 9) (v := ?vB43) rfl (.inl ⟨by kernel_rfl, ?yB43⟩) (by assumption) ?rB43
                case yB43 => (intro w hSw; first | (go_simp; done) | (go_simp; with_reducible rfl))
                refine wpAnyH_ready (rs := [10]) (by kernel_rfl) (by simp) (.cons rfl (fun K hK => ?hcB44) .nil)
                go_simp
                refine hK.out _ _ ?sB44 (fun hB44 => ?tB44)
                case sB44 => ((try dsimp only); (first | (with_reducible exact hHeld) | exact hk | exact And.intro hk.1.drew hk.2.drew | exact And.intro (hk.1.set HM.out HBB.out.2.1) (hk.2.setCell _ _ (.inr (.inr rfl))) | exact And.intro (hk.1.set HM.out HBB.out.2.1).drew (hk.2.setCell _ _ (.inr (.inr rfl))).drew))
                replace hHeld := hB44; clear hK hB44
                refine wpAnyH_done (by kernel_rfl) ?_ _
                clear hHeld
                refine NoPanic.normal ?_
               case' hcB40 =>
                go_simp
                ((first | refine intro_alloc (fun XB hBX hLB => ?_) | refine intro_alloc_drew (fun XB hBX hLB => ?_)); have hq5 := below_push hBX hq5; have hq4 := below_push hBX hq4; have how := ownsRow_turned how (Turned.of_below (T := fun _ => False) hBX) (fun _ _ h => h); have hrr := ownsRow_turned hrr (Turned.of_below (T := fun _ => False) hBX) (fun _ _ h => h); have hk := And.intro (mkr_alloc (by first | exact hHeld.1 | exact undrew_mkr hHeld.1) hBX) (turned_alloc (by first | exact hHeld.2 | exact undrew_turned hHeld.2) hBX); obtain ⟨y0, y1, y2, y3, y4, y5, y6⟩ := quest_cells hq5; (try dsimp only))
                refine hK.out _ _ ?sB40 (fun hB40 => ?tB40)
                case sB40 => ((try dsimp only); (first | (with_reducible exact hHeld) | exact hk | exact And.intro hk.1.drew hk.2.drew))
                replace hHeld := hB40; clear hK hB40
                refine wpAnyH_ready (rs := [1]) (by kernel_rfl) (by simp) (.cons rfl (fun K hK => ?hcB45) .nil)
                go_simp
                refine hK.out _ _ ?sB45 (fun hB45 => ?tB45)
                case sB45 => ((try dsimp only); (first | (with_reducible exact hHeld) | exact hk | exact And.intro hk.1.drew hk.2.drew))
                replace hHeld := hB45; clear hK hB45
                refine wpAnyH_ready (rs := [8]) (by kernel_rfl) (by simp) (.cons rfl (fun K hK => ?hcB46) .nil)
                (refine step_append_rd _ (by rfl) (.tmp 61) (.tmp 67) (by rfl) slStrR X2.heap.size (.slice pa j pc) _ _ (by rfl) (by exact hrr) _ _ _ _ (by rfl) (by exact rd_lit hLB rfl) (by intro u hu; simp at hu; subst hu; rfl) (by unfold maxLen; omega) (by omega) (Turned.size hHeld.2) ?_; intro v4 w4 hown4 hgr4 hat4 hnl4; obtain ⟨va4, vc4, rfl, _, _⟩ := (Rd.of_own hown4).form; have hsep4 := Sep.grown (Sep.symm hsep) hat4 how; have how := Sep.kept (Sep.symm hsep) how hgr4; have hq5 := (hgr4.block B5 (lt_of_block hq5) (fun e1 => by have := (hrr.lt B5 e1.symm).1; omega)).trans hq5; have hq4 := (hgr4.block B4 (lt_of_block hq4) (fun e1 => by have := (hrr.lt B4 e1.symm).1; omega)).trans hq4; have hk := And.intro (MkR.own hHeld.1 HM.out hgr4 (fun g hg => Nat.le_trans hsw2 (hrr.lt g hg).1)) (Turned.own hHeld.2 hgr4 (fun g hg => (hrr.lt g hg).1)); have fe := box_frozen hq5 6; obtain ⟨y0, y1, y2, y3, y4, y5, y6⟩ := quest_cells hq5; (try dsimp only))
                refine hK.out _ _ ?sB46 (fun hB46 => ?tB46)
                case sB46 => ((try dsimp only); (first | (with_reducible exact hHeld) | exact hk | exact And.intro hk.1.drew hk.2.drew))
                replace hHeld := hB46; clear hK hB46
                refine tkA (i := 9) (v := ?vB47) rfl (.inl ⟨by kernel_rfl, ?yB47⟩) (by assumption) ?rB47
                case yB47 => (intro w hSw; first | (go_simp; done) | (go_simp; with_reducible rfl))
                refine wpAnyH_ready (rs := [10]) (by kernel_rfl) (by simp) (.cons rfl (fun K hK => ?hcB48) .nil)
                go_simp
                refine hK.out _ _ ?sB48 (fun hB48 => ?tB48)
                case sB48 => ((try dsimp only); (first | (with_reducible exact hHeld) | exact hk | exact And.intro hk.1.drew hk.2.drew | exact And.intro (hk.1.set HM.out HBB.out.2.1) (hk.2.setCell _ _ (.inr (.inr rfl))) | exact And.intro (hk.1.set HM.out HBB.out.2.1).drew (hk.2.setCell _ _ (.inr (.inr rfl))).drew))
                replace hHeld := hB48; clear hK hB48
                refine wpAnyH_done (by kernel_rfl) ?_ _
                clear hHeld
                refine NoPanic.normal ?_
            case' hcB5 =>
             go_simp
             (go_at_call 52; refine (HTW.out _ _ hHeld.1).mono ?_; rintro e wt ⟨⟨zt, rfl, hz0, hz1, _⟩, hrt⟩; obtain ⟨zn, rfl⟩ : ∃ zn : Nat, zt = (zn : Int) := ⟨zt.toNat, by omega⟩; have hz2 : (zn : Int) < 3 := hz1 (by decide); have hq5 := hrt.box hq5 hB5P; have hq4 := hrt.box hq4 hB4P; have how := hrt.row how (by omega); have hrr := hrt.row hrr (by omega); have hk := And.intro (MkR.trans hHeld.1 hrt) (hHeld.2.trans (hrt.2.mono (fun _ _ h => .inl h))); obtain ⟨y0, y1, y2, y3, y4, y5, y6⟩ := quest_cells hq5; (first | (have hLA := hrt.box hLA hgA) | skip); (first | (have hget := lit_get (p := fun v => ∃ s : ByteArray, v = .string s) hLA (by simp) (z := zn) (by simp <;> omega); obtain ⟨v, hcL, sL, rfl⟩ := hget) | skip); (try dsimp only))
             refine hK.out _ _ ?sB5 (fun hB5 => ?tB5)
             case sB5 => ((try dsimp only); (first | (with_reducible exact hHeld) | exact hk | exact And.intro hk.1.drew hk.2.drew))
             replace hHeld := hB5; clear hK hB5
             refine wpAnyH_ready (rs := [1, 2]) (by kernel_rfl) (by simp) (.cons rfl (fun K hK => ?hcB49) (.cons rfl (fun K hK => ?hcB50) .nil))
             case' hcB49 =>
              go_simp
              refine hK.out _ _ ?sB49 (fun hB49 => ?tB49)
              case sB49 => ((try dsimp only); (first | (with_reducible exact hHeld) | exact hk | exact And.intro hk.1.drew hk.2.drew))
              replace hHeld := hB49; clear hK hB49
              refine wpAnyH_ready (rs := [2]) (by kernel_rfl) (by simp) (.cons rfl (fun K hK => ?hcB51) .nil)
              go_simp
              (have hgA := Nat.ne_of_gt (Nat.lt_of_lt_of_le hP (MkR.size hHeld.1)); (first | refine intro_alloc (fun XA hBX hLA => ?_) | refine intro_alloc_drew (fun XA hBX hLA => ?_)); have hq5 := below_push hBX hq5; have hq4 := below_push hBX hq4; have how := ownsRow_turned how (Turned.of_below (T := fun _ => False) hBX) (fun _ _ h => h); have hrr := ownsRow_turned hrr (Turned.of_below (T := fun _ => False) hBX) (fun _ _ h => h); have hk := And.intro (mkr_alloc (by first | exact hHeld.1 | exact undrew_mkr hHeld.1) hBX) (turned_alloc (by first | exact hHeld.2 | exact undrew_turned hHeld.2) hBX); obtain ⟨y0, y1, y2, y3, y4, y5, y6⟩ := quest_cells hq5; (first | (have hget := lit_get (p := fun v => ∃ s : ByteArray, v = .string s) hLA (by simp) (z := zn) (by simp <;> omega); obtain ⟨v, hcL, sL, rfl⟩ := hget) | skip); (try dsimp only))
              refine hK.out _ _ ?sB51 (fun hB51 => ?tB51)
              case sB51 => ((try dsimp only); (first | (with_reducible exact hHeld) | exact hk | exact And.intro hk.1.drew hk.2.drew))
              replace hHeld := hB51; clear hK hB51
              refine tkA (i := 5) (v := ?vB52) rfl (.inl ⟨by kernel_rfl, ?yB52⟩) (by assumption) ?rB52
              case yB52 => (intro w hSw; first | (go_simp; done) | (go_simp; with_reducible rfl))
              refine wpAnyH_ready (rs := [6]) (by kernel_rfl) (by simp) (.cons rfl (fun K hK => ?hcB53) .nil)
              go_simp
              refine hK.out _ _ ?sB53 (fun hB53 => ?tB53)
              case sB53 => ((try dsimp only); (first | (with_reducible exact hHeld) | exact hk | exact And.intro hk.1.drew hk.2.drew))
              replace hHeld := hB53; clear hK hB53
              refine wpAnyH_ready (rs := [7]) (by kernel_rfl) (by simp) (.cons rfl (fun K hK => ?hcB54) .nil)
              go_simp
              ((first | refine intro_alloc (fun XB hBX hLB => ?_) | refine intro_alloc_drew (fun XB hBX hLB => ?_)); have hq5 := below_push hBX hq5; have hq4 := below_push hBX hq4; have how := ownsRow_turned how (Turned.of_below (T := fun _ => False) hBX) (fun _ _ h => h); have hrr := ownsRow_turned hrr (Turned.of_below (T := fun _ => False) hBX) (fun _ _ h => h); have hk := And.intro (mkr_alloc (by first | exact hHeld.1 | exact undrew_mkr hHeld.1) hBX) (turned_alloc (by first | exact hHeld.2 | exact undrew_turned hHeld.2) hBX); obtain ⟨y0, y1, y2, y3, y4, y5, y6⟩ := quest_cells hq5; (try dsimp only))
              refine hK.out _ _ ?sB54 (fun hB54 => ?tB54)
              case sB54 => ((try dsimp only); (first | (with_reducible exact hHeld) | exact hk | exact And.intro hk.1.drew hk.2.drew))
              replace hHeld := hB54; clear hK hB54
              refine wpAnyH_ready (rs := [8]) (by kernel_rfl) (by simp) (.cons rfl (fun K hK => ?hcB55) .nil)
              (refine step_append_rd _ (by rfl) (.tmp 61) (.tmp 67) (by rfl) slStrR X2.heap.size (.slice pa j pc) _ _ (by rfl) (by exact hrr) _ _ _ _ (by rfl) (by exact rd_lit hLB rfl) (by intro u hu; simp at hu; subst hu; rfl) (by unfold maxLen; omega) (by omega) (Turned.size hHeld.2) ?_; intro v4 w4 hown4 hgr4 hat4 hnl4; obtain ⟨va4, vc4, rfl, _, _⟩ := (Rd.of_own hown4).form; have hsep4 := Sep.grown (Sep.symm hsep) hat4 how; have how := Sep.kept (Sep.symm hsep) how hgr4; have hq5 := (hgr4.block B5 (lt_of_block hq5) (fun e1 => by have := (hrr.lt B5 e1.symm).1; omega)).trans hq5; have hq4 := (hgr4.block B4 (lt_of_block hq4) (fun e1 => by have := (hrr.lt B4 e1.symm).1; omega)).trans hq4; have hk := And.intro (MkR.own hHeld.1 HM.out hgr4 (fun g hg => Nat.le_trans hsw2 (hrr.lt g hg).1)) (Turned.own hHeld.2 hgr4 (fun g hg => (hrr.lt g hg).1)); have fe := box_frozen hq5 6; obtain ⟨y0, y1, y2, y3, y4, y5, y6⟩ := quest_cells hq5; (try dsimp only))
              refine hK.out _ _ ?sB55 (fun hB55 => ?tB55)
              case sB55 => ((try dsimp only); (first | (with_reducible exact hHeld) | exact hk | exact And.intro hk.1.drew hk.2.drew))
              replace hHeld := hB55; clear hK hB55
              refine tkA (i := 9) (v := ?vB56) rfl (.inl ⟨by kernel_rfl, ?yB56⟩) (by assumption) ?rB56
              case yB56 => (intro w hSw; first | (go_simp; done) | (go_simp; with_reducible rfl))
              refine wpAnyH_ready (rs := [10]) (by kernel_rfl) (by simp) (.cons rfl (fun K hK => ?hcB57) .nil)
              go_simp
              refine hK.out _ _ ?sB57 (fun hB57 => ?tB57)
              case sB57 => ((try dsimp only); (first | (with_reducible exact hHeld) | exact hk | exact And.intro hk.1.drew hk.2.drew | exact And.intro (hk.1.set HM.out HBB.out.2.1) (hk.2.setCell _ _ (.inr (.inr rfl))) | exact And.intro (hk.1.set HM.out HBB.out.2.1).drew (hk.2.setCell _ _ (.inr (.inr rfl))).drew))
              replace hHeld := hB57; clear hK hB57
              refine wpAnyH_done (by kernel_rfl) ?_ _
              clear hHeld
              refine NoPanic.normal ?_
             case' hcB50 =>
              go_simp
              (have hgA := Nat.ne_of_gt (Nat.lt_of_lt_of_le hP (MkR.size hHeld.1)); (first | refine intro_alloc (fun XA hBX hLA => ?_) | refine intro_alloc_drew (fun XA hBX hLA => ?_)); have hq5 := below_push hBX hq5; have hq4 := below_push hBX hq4; have how := ownsRow_turned how (Turned.of_below (T := fun _ => False) hBX) (fun _ _ h => h); have hrr := ownsRow_turned hrr (Turned.of_below (T := fun _ => False) hBX) (fun _ _ h => h); have hk := And.intro (mkr_alloc (by first | exact hHeld.1 | exact undrew_mkr hHeld.1) hBX) (turned_alloc (by first | exact hHeld.2 | exact undrew_turned hHeld.2) hBX); obtain ⟨y0, y1, y2, y3, y4, y5, y6⟩ := quest_cells hq5; (first | (have hget := lit_get (p := fun v => ∃ s : ByteArray, v = .string s) hLA (by simp) (z := zn) (by simp <;> omega); obtain ⟨v, hcL, sL, rfl⟩ := hget) | skip); (try dsimp only))
              refine hK.out _ _ ?sB50 (fun hB50 => ?tB50)
              case sB50 => ((try dsimp only); (first | (with_reducible exact hHeld) | exact hk | exact And.intro hk.1.drew hk.2.drew))
              replace hHeld := hB50; clear hK hB50
              refine tkA (i := 5) (v := ?vB58) rfl (.inl ⟨by kernel_rfl, ?yB58⟩) (by assumption) ?rB58
              case yB58 => (intro w hSw; first | (go_simp; done) | (go_simp; with_reducible rfl))
              refine wpAnyH_ready (rs := [1, 6]) (by kernel_rfl) (by simp) (.cons rfl (fun K hK => ?hcB59) (.cons rfl (fun K hK => ?hcB60) .nil))
              case' hcB59 =>
               go_simp
               refine hK.out _ _ ?sB59 (fun hB59 => ?tB59)
               case sB59 => ((try dsimp only); (first | (with_reducible exact hHeld) | exact hk | exact And.intro hk.1.drew hk.2.drew))
               replace hHeld := hB59; clear hK hB59
               refine wpAnyH_ready (rs := [6]) (by kernel_rfl) (by simp) (.cons rfl (fun K hK => ?hcB61) .nil)
               go_simp
               refine hK.out _ _ ?sB61 (fun hB61 => ?tB61)
               case sB61 => ((try dsimp only); (first | (with_reducible exact hHeld) | exact hk | exact And.intro hk.1.drew hk.2.drew))
               replace hHeld := hB61; clear hK hB61
               refine wpAnyH_ready (rs := [7]) (by kernel_rfl) (by simp) (.cons rfl (fun K hK => ?hcB62) .nil)
               go_simp
               ((first | refine intro_alloc (fun XB hBX hLB => ?_) | refine intro_alloc_drew (fun XB hBX hLB => ?_)); have hq5 := below_push hBX hq5; have hq4 := below_push hBX hq4; have how := ownsRow_turned how (Turned.of_below (T := fun _ => False) hBX) (fun _ _ h => h); have hrr := ownsRow_turned hrr (Turned.of_below (T := fun _ => False) hBX) (fun _ _ h => h); have hk := And.intro (mkr_alloc (by first | exact hHeld.1 | exact undrew_mkr hHeld.1) hBX) (turned_alloc (by first | exact hHeld.2 | exact undrew_turned hHeld.2) hBX); obtain ⟨y0, y1, y2, y3, y4, y5, y6⟩ := quest_cells hq5; (try dsimp only))
               refine hK.out _ _ ?sB62 (fun hB62 => ?tB62)
               case sB62 => ((try dsimp only); (first | (with_reducible exact hHeld) | exact hk | exact And.intro hk.1.drew hk.2.drew))
               replace hHeld := hB62; clear hK hB62
               refine wpAnyH_ready (rs := [8]) (by kernel_rfl) (by simp) (.cons rfl (fun K hK => ?hcB63) .nil)
               (refine step_append_rd _ (by rfl) (.tmp 61) (.tmp 67) (by rfl) slStrR X2.heap.size (.slice pa j pc) _ _ (by rfl) (by exact hrr) _ _ _ _ (by rfl) (by exact rd_lit hLB rfl) (by intro u hu; simp at hu; subst hu; rfl) (by unfold maxLen; omega) (by omega) (Turned.size hHeld.2) ?_; intro v4 w4 hown4 hgr4 hat4 hnl4; obtain ⟨va4, vc4, rfl, _, _⟩ := (Rd.of_own hown4).form; have hsep4 := Sep.grown (Sep.symm hsep) hat4 how; have how := Sep.kept (Sep.symm hsep) how hgr4; have hq5 := (hgr4.block B5 (lt_of_block hq5) (fun e1 => by have := (hrr.lt B5 e1.symm).1; omega)).trans hq5; have hq4 := (hgr4.block B4 (lt_of_block hq4) (fun e1 => by have := (hrr.lt B4 e1.symm).1; omega)).trans hq4; have hk := And.intro (MkR.own hHeld.1 HM.out hgr4 (fun g hg => Nat.le_trans hsw2 (hrr.lt g hg).1)) (Turned.own hHeld.2 hgr4 (fun g hg => (hrr.lt g hg).1)); have fe := box_frozen hq5 6; obtain ⟨y0, y1, y2, y3, y4, y5, y6⟩ := quest_cells hq5; (try dsimp only))
               refine hK.out _ _ ?sB63 (fun hB63 => ?tB63)
               case sB63 => ((try dsimp only); (first | (with_reducible exact hHeld) | exact hk | exact And.intro hk.1.drew hk.2.drew))
               replace hHeld := hB63; clear hK hB63
               refine tkA (i := 9) (v := ?vB64) rfl (.inl ⟨by kernel_rfl, ?yB64⟩) (by assumption) ?rB64
               case yB64 => (intro w hSw; first | (go_simp; done) | (go_simp; with_reducible rfl))
               refine wpAnyH_ready (rs := [10]) (by kernel_rfl) (by simp) (.cons rfl (fun K hK => ?hcB65) .nil)
               go_simp
               refine hK.out _ _ ?sB65 (fun hB65 => ?tB65)
               case sB65 => ((try dsimp only); (first | (with_reducible exact hHeld) | exact hk | exact And.intro hk.1.drew hk.2.drew | exact And.intro (hk.1.set HM.out HBB.out.2.1) (hk.2.setCell _ _ (.inr (.inr rfl))) | exact And.intro (hk.1.set HM.out HBB.out.2.1).drew (hk.2.setCell _ _ (.inr (.inr rfl))).drew))
               replace hHeld := hB65; clear hK hB65
               refine wpAnyH_done (by kernel_rfl) ?_ _
               clear hHeld
               refine NoPanic.normal ?_
              case' hcB60 =>
               go_simp
               refine hK.out _ _ ?sB60 (fun hB60 => ?tB60)
               case sB60 => ((try dsimp only); (first | (with_reducible exact hHeld) | exact hk | exact And.intro hk.1.drew hk.2.drew))
               replace hHeld := hB60; clear hK hB60
               refine wpAnyH_ready (rs := [1, 7]) (by kernel_rfl) (by simp) (.cons rfl (fun K hK => ?hcB66) (.cons rfl (fun K hK => ?hcB67) .nil))
               case' hcB66 =>
                go_simp
                refine hK.out _ _ ?sB66 (fun hB66 => ?tB66)
                case sB66 => ((try dsimp only); (first | (with_reducible exact hHeld) | exact hk | exact And.intro hk.1.drew hk.2.drew))
                replace hHeld := hB66; clear hK hB66
                refine wpAnyH_ready (rs := [7]) (by kernel_rfl) (by simp) (.cons rfl (fun K hK => ?hcB68) .nil)
                go_simp
                ((first | refine intro_alloc (fun XB hBX hLB => ?_) | refine intro_alloc_drew (fun XB hBX hLB => ?_)); have hq5 := below_push hBX hq5; have hq4 := below_push hBX hq4; have how := ownsRow_turned how (Turned.of_below (T := fun _ => False) hBX) (fun _ _ h => h); have hrr := ownsRow_turned hrr (Turned.of_below (T := fun _ => False) hBX) (fun _ _ h => h); have hk := And.intro (mkr_alloc (by first | exact hHeld.1 | exact undrew_mkr hHeld.1) hBX) (turned_alloc (by first | exact hHeld.2 | exact undrew_turned hHeld.2) hBX); obtain ⟨y0, y1, y2, y3, y4, y5, y6⟩ := quest_cells hq5; (try dsimp only))
                refine hK.out _ _ ?sB68 (fun hB68 => ?tB68)
                case sB68 => ((try dsimp only); (first | (with_reducible exact hHeld) | exact hk | exact And.intro hk.1.drew hk.2.drew))
                replace hHeld := hB68; clear hK hB68
                refine wpAnyH_ready (rs := [8]) (by kernel_rfl) (by simp) (.cons rfl (fun K hK => ?hcB69) .nil)
                (refine step_append_rd _ (by rfl) (.tmp 61) (.tmp 67) (by rfl) slStrR X2.heap.size (.slice pa j pc) _ _ (by rfl) (by exact hrr) _ _ _ _ (by rfl) (by exact rd_lit hLB rfl) (by intro u hu; simp at hu; subst hu; rfl) (by unfold maxLen; omega) (by omega) (Turned.size hHeld.2) ?_; intro v4 w4 hown4 hgr4 hat4 hnl4; obtain ⟨va4, vc4, rfl, _, _⟩ := (Rd.of_own hown4).form; have hsep4 := Sep.grown (Sep.symm hsep) hat4 how; have how := Sep.kept (Sep.symm hsep) how hgr4; have hq5 := (hgr4.block B5 (lt_of_block hq5) (fun e1 => by have := (hrr.lt B5 e1.symm).1; omega)).trans hq5; have hq4 := (hgr4.block B4 (lt_of_block hq4) (fun e1 => by have := (hrr.lt B4 e1.symm).1; omega)).trans hq4; have hk := And.intro (MkR.own hHeld.1 HM.out hgr4 (fun g hg => Nat.le_trans hsw2 (hrr.lt g hg).1)) (Turned.own hHeld.2 hgr4 (fun g hg => (hrr.lt g hg).1)); have fe := box_frozen hq5 6; obtain ⟨y0, y1, y2, y3, y4, y5, y6⟩ := quest_cells hq5; (try dsimp only))
                refine hK.out _ _ ?sB69 (fun hB69 => ?tB69)
                case sB69 => ((try dsimp only); (first | (with_reducible exact hHeld) | exact hk | exact And.intro hk.1.drew hk.2.drew))
                replace hHeld := hB69; clear hK hB69
                refine tkA (i := 9) (v := ?vB70) rfl (.inl ⟨by kernel_rfl, ?yB70⟩) (by assumption) ?rB70
                case yB70 => (intro w hSw; first | (go_simp; done) | (go_simp; with_reducible rfl))
                refine wpAnyH_ready (rs := [10]) (by kernel_rfl) (by simp) (.cons rfl (fun K hK => ?hcB71) .nil)
                go_simp
                refine hK.out _ _ ?sB71 (fun hB71 => ?tB71)
                case sB71 => ((try dsimp only); (first | (with_reducible exact hHeld) | exact hk | exact And.intro hk.1.drew hk.2.drew | exact And.intro (hk.1.set HM.out HBB.out.2.1) (hk.2.setCell _ _ (.inr (.inr rfl))) | exact And.intro (hk.1.set HM.out HBB.out.2.1).drew (hk.2.setCell _ _ (.inr (.inr rfl))).drew))
                replace hHeld := hB71; clear hK hB71
                refine wpAnyH_done (by kernel_rfl) ?_ _
                clear hHeld
                refine NoPanic.normal ?_
               case' hcB67 =>
                go_simp
                ((first | refine intro_alloc (fun XB hBX hLB => ?_) | refine intro_alloc_drew (fun XB hBX hLB => ?_)); have hq5 := below_push hBX hq5; have hq4 := below_push hBX hq4; have how := ownsRow_turned how (Turned.of_below (T := fun _ => False) hBX) (fun _ _ h => h); have hrr := ownsRow_turned hrr (Turned.of_below (T := fun _ => False) hBX) (fun _ _ h => h); have hk := And.intro (mkr_alloc (by first | exact hHeld.1 | exact undrew_mkr hHeld.1) hBX) (turned_alloc (by first | exact hHeld.2 | exact undrew_turned hHeld.2) hBX); obtain ⟨y0, y1, y2, y3, y4, y5, y6⟩ := quest_cells hq5; (try dsimp only))
                refine hK.out _ _ ?sB67 (fun hB67 => ?tB67)
                case sB67 => ((try dsimp only); (first | (with_reducible exact hHeld) | exact hk | exact And.intro hk.1.drew hk.2.drew))
                replace hHeld := hB67; clear hK hB67
                refine wpAnyH_ready (rs := [1]) (by kernel_rfl) (by simp) (.cons rfl (fun K hK => ?hcB72) .nil)
                go_simp
                refine hK.out _ _ ?sB72 (fun hB72 => ?tB72)
                case sB72 => ((try dsimp only); (first | (with_reducible exact hHeld) | exact hk | exact And.intro hk.1.drew hk.2.drew))
                replace hHeld := hB72; clear hK hB72
                refine wpAnyH_ready (rs := [8]) (by kernel_rfl) (by simp) (.cons rfl (fun K hK => ?hcB73) .nil)
                (refine step_append_rd _ (by rfl) (.tmp 61) (.tmp 67) (by rfl) slStrR X2.heap.size (.slice pa j pc) _ _ (by rfl) (by exact hrr) _ _ _ _ (by rfl) (by exact rd_lit hLB rfl) (by intro u hu; simp at hu; subst hu; rfl) (by unfold maxLen; omega) (by omega) (Turned.size hHeld.2) ?_; intro v4 w4 hown4 hgr4 hat4 hnl4; obtain ⟨va4, vc4, rfl, _, _⟩ := (Rd.of_own hown4).form; have hsep4 := Sep.grown (Sep.symm hsep) hat4 how; have how := Sep.kept (Sep.symm hsep) how hgr4; have hq5 := (hgr4.block B5 (lt_of_block hq5) (fun e1 => by have := (hrr.lt B5 e1.symm).1; omega)).trans hq5; have hq4 := (hgr4.block B4 (lt_of_block hq4) (fun e1 => by have := (hrr.lt B4 e1.symm).1; omega)).trans hq4; have hk := And.intro (MkR.own hHeld.1 HM.out hgr4 (fun g hg => Nat.le_trans hsw2 (hrr.lt g hg).1)) (Turned.own hHeld.2 hgr4 (fun g hg => (hrr.lt g hg).1)); have fe := box_frozen hq5 6; obtain ⟨y0, y1, y2, y3, y4, y5, y6⟩ := quest_cells hq5; (try dsimp only))
                refine hK.out _ _ ?sB73 (fun hB73 => ?tB73)
                case sB73 => ((try dsimp only); (first | (with_reducible exact hHeld) | exact hk | exact And.intro hk.1.drew hk.2.drew))
                replace hHeld := hB73; clear hK hB73
                refine tkA (i := 9) (v := ?vB74) rfl (.inl ⟨by kernel_rfl, ?yB74⟩) (by assumption) ?rB74
                case yB74 => (intro w hSw; first | (go_simp; done) | (go_simp; with_reducible rfl))
                refine wpAnyH_ready (rs := [10]) (by kernel_rfl) (by simp) (.cons rfl (fun K hK => ?hcB75) .nil)
                go_simp
                refine hK.out _ _ ?sB75 (fun hB75 => ?tB75)
                case sB75 => ((try dsimp only); (first | (with_reducible exact hHeld) | exact hk | exact And.intro hk.1.drew hk.2.drew | exact And.intro (hk.1.set HM.out HBB.out.2.1) (hk.2.setCell _ _ (.inr (.inr rfl))) | exact And.intro (hk.1.set HM.out HBB.out.2.1).drew (hk.2.setCell _ _ (.inr (.inr rfl))).drew))
                replace hHeld := hB75; clear hK hB75
                refine wpAnyH_done (by kernel_rfl) ?_ _
                clear hHeld
                refine NoPanic.normal ?_
            all_goals
              (try dsimp only [Exit.inBlock, Exit.then])
              refine hM2 _ _ ⟨rfl, rfl, by kernel_rfl, by kernel_rfl, by kernel_rfl, by kernel_rfl, by kernel_rfl, .slice oa (j + 1) oc, .slice va4 (j + 1) vc4, _, _, how.kept (grownBy_setC w4 B5 6 _) (.inr (fun e1 => by have := (how.lt B5 e1).1; omega)), hown4.kept (grownBy_setC w4 B5 6 _) (.inr (fun e1 => by have := (hown4.lt B5 e1).1; omega)), Sep.symm hsep4, heap_set hq5 6 _, (Below.heap_setCell w4 ⟨B5, 6, none⟩ _ B4 HBB.out.2.2.symm).trans hq4, by first | exact hk.1.set HM.out HBB.out.2.1 | exact (hk.1.set HM.out HBB.out.2.1).drew, by first | exact hk.2.setCell _ _ (.inr (.inr rfl)) | exact (hk.2.setCell _ _ (.inr (.inr rfl))).drew⟩
          clear hq5 hq4 hrw hTq how hrr hsep
          rintro ⟨tm1, ds1⟩ W1 ⟨h82, hds, e0, e4, e5, e7, e8, ov, rv, xs, ys, how, hrr, hsep, hq5, hq4, hrw, hTq⟩
          simp only at h82 hds e0 e4 e5 e7 e8
          subst hds
          apply_assumption
          rw [frame82 tm1 [] h82, e0, e4, e5, e7, e8]
          clear h82 e0 e4 e5 e7 e8
          go_wp2
          refine ⟨LoopI.mk rfl ⟨rfl, rfl, rfl, rfl, rfl, j + 1, ov, rv, xs, ys, by omega, by show Value.int _ _ = _; go_num, how, hrr, hsep, hq5, hq4, hrw, hTq⟩, ?_⟩
          show m - _ < m - _
          simp [intOf]; omega
        · have hjmi : ¬ (j : Int) < (m : Int) := by omega
          clear how hrr hsep
          go_wp2_with (first
            | (go_at_call 52; refine (HTW.out _ _ hrw).mono ?_; rintro e w9 ⟨⟨z, rfl, hz0, hz1, _⟩, hr9⟩; have hz4 : z < (m : Int) := hz1 (by omega); have hq5 := hr9.box hq5 hB5P; have hq4 := hr9.box hq4 hB4P; have hTq := hTq.trans (hr9.2.mono (fun _ _ h => .inl h)); have hrw := hrw.trans hr9)
            | (go_at_call 76; refine (dec_any _ _ (by omega) (by omega)).mono ?_; rintro e wd ⟨⟨s, rfl⟩, hbd⟩; have hq5 := below_push hbd hq5; have hq4 := below_push hbd hq4; have hTq := hTq.below hbd; have hrw := hrw.below hbd; obtain ⟨y0, y1, y2, y3, y4, y5, y6⟩ := quest_cells hq5; have fe := box_frozen hq5 4)
            | fail)
          exact ⟨rfl, rfl, rfl, rfl, (Below.heap_setCell wd ⟨B5, 4, none⟩ _ B4 HBB.out.2.2.symm).trans hq4, hrw.set HM.out HBB.out.2.1, HTF.out _ (hTq.setCell _ _ (.inr (.inr rfl))), k, p, s, ra, oa, pa, rn, rc, j, oc, j, pc, heap_set hq5 4 _⟩
      · have b0 : (k == 0) = false := beq_false_of_ne k0
        clear k0
        by_cases k1 : k = 1
        · have b1 : (k == 1) = true := by simp [k1]
          clear k1
          go_wp2_with (first
            | (go_at_call 52; refine (HTW.out _ _ hrw).mono ?_; rintro e w9 ⟨⟨z, rfl, hz0, hz1, _⟩, hr9⟩; have hz4 : z < 200 := hz1 (by omega); have hq5 := hr9.box hq5 hB5P; have hq4 := hr9.box hq4 hB4P; have hown := hr9.row hown (by omega); have hrw := hrw.trans hr9)
            | (go_at_call 76; refine (dec_any _ _ (by omega) (by omega)).mono ?_; rintro e wd ⟨⟨s, rfl⟩, hbd⟩; have hq5 := below_push hbd hq5; have hq4 := below_push hbd hq4; have hown := ownsRow_turned hown (Turned.of_below (T := fun _ => False) hbd) (fun _ _ h => h); have hrw := hrw.below hbd; obtain ⟨y0, y1, y2, y3, y4, y5, y6⟩ := quest_cells hq5; have fe := box_frozen hq5 4)
            | fail)
          exact ⟨rfl, rfl, rfl, rfl, (Below.heap_setCell wd ⟨B5, 4, none⟩ _ B4 HBB.out.2.2.symm).trans hq4, hrw.set HM.out HBB.out.2.1, hown.kept (grownBy_setC wd B5 4 _) (.inr (fun e1 => by have := (hown.lt B5 e1).1; have := HBL.out; omega)), k, p, s, ra, none, none, rn, rc, 0, 0, 0, 0, heap_set hq5 4 _⟩
        · have b1 : (k == 1) = false := beq_false_of_ne k1
          clear k1
          go_wp2_with (first
            | (go_at_call 75; refine (HPH.out _ hrw).mono ?_; rintro e wd ⟨⟨s, rfl⟩, hr9⟩; have hq5 := hr9.box hq5 hB5P; have hq4 := hr9.box hq4 hB4P; have hown := hr9.row hown (by omega); have hrw := hrw.trans hr9; obtain ⟨y0, y1, y2, y3, y4, y5, y6⟩ := quest_cells hq5; have fe := box_frozen hq5 4)
            | fail)
          exact ⟨rfl, rfl, rfl, rfl, (Below.heap_setCell wd ⟨B5, 4, none⟩ _ B4 HBB.out.2.2.symm).trans hq4, hrw.set HM.out HBB.out.2.1, hown.kept (grownBy_setC wd B5 4 _) (.inr (fun e1 => by have := (hown.lt B5 e1).1; have := HBL.out; omega)), k, p, s, ra, none, none, rn, rc, 0, 0, 0, 0, heap_set hq5 4 _⟩
    clear hq5 hq4 hown hrw hsz
    rintro ⟨tm1, ds1⟩ W ⟨h82, hds, e4, e5, hq4, hrw, hown, k, p, s, a1, a2, a6, n1, c1, n2, c2, n6, c6, hq5⟩
    simp only at h82 hds e4 e5
    subst hds
    apply_assumption
    rw [frame82 tm1 [] h82, e4, e5]
    clear h82 e4 e5
    obtain ⟨W2, hW2⟩ : ∃ W2, W2 = W.setCells B4 0 [.int .i64 k, .slice a1 n1 c1, .slice a2 n2 c2, .slice na L.length nc, .string s, .int .i64 p, .slice a6 n6 c6] := ⟨_, rfl⟩
    have HQ := hidep (heap_set7 hq4 (.int .i64 k) (.slice a1 n1 c1) (.slice a2 n2 c2) (.slice na L.length nc) (.string s) (.int .i64 p) (.slice a6 n6 c6))
    have HMK := hidep (MkR.set (MkR.set (MkR.set (MkR.set (MkR.set (MkR.set (MkR.set hrw HM.out HBB.out.1 (o := 0) (v := (.int .i64 k))) HM.out HBB.out.1 (o := 1) (v := (.slice a1 n1 c1))) HM.out HBB.out.1 (o := 2) (v := (.slice a2 n2 c2))) HM.out HBB.out.1 (o := 3) (v := (.slice na L.length nc))) HM.out HBB.out.1 (o := 4) (v := (.string s))) HM.out HBB.out.1 (o := 5) (v := (.int .i64 p))) HM.out HBB.out.1 (o := 6) (v := (.slice a6 n6 c6)))
    have HTU := hidep (Turned.setCell (Turned.setCell (Turned.setCell (Turned.setCell (Turned.setCell (Turned.setCell (Turned.setCell (Turned.refl (fun c => c = B4) W) ⟨B4, 0, none⟩ (.int .i64 k) (.inr rfl)) ⟨B4, 1, none⟩ (.slice a1 n1 c1) (.inr rfl)) ⟨B4, 2, none⟩ (.slice a2 n2 c2) (.inr rfl)) ⟨B4, 3, none⟩ (.slice na L.length nc) (.inr rfl)) ⟨B4, 4, none⟩ (.string s) (.inr rfl)) ⟨B4, 5, none⟩ (.int .i64 p) (.inr rfl)) ⟨B4, 6, none⟩ (.slice a6 n6 c6) (.inr rfl))
    have HE := hidep (show W2.heap[B4]? = some (.cells (questC k p s (.slice a1 n1 c1) (.slice a2 n2 c2) (.slice na L.length nc) (.slice a6 n6 c6)) 113) ∧ MkR P la lc l w W2 ∧ Turned (fun c => c = B4) W W2 from by
      rw [hW2, setCells7]
      exact ⟨HQ.out, HMK.out, HTU.out⟩)
    have HL := hidep (show W.rangeAt B5 0 [.int .i64 k, .slice a1 n1 c1, .slice a2 n2 c2, .slice na L.length nc, .string s, .int .i64 p, .slice a6 n6 c6] from range_of_box hq5)
    have HTH := hidep (there_of_box (n := 7) hq4 (Nat.le_refl _))
    have HD := hidep (show (∃ d, Try.prog.underlying 113 = some d ∧ d.isRow = true) ∧ (Try.prog.info? 113).map (·.size) = some 7 from ⟨under_row (by kernel_rfl), by kernel_rfl⟩)
    have HOWN := hidep hown
    have HW2 := hidep hW2
    clear hq5 hq4 hown hrw HQ HMK HTU hW2
    have HONE := hidep (show Array.all (α := Value) #[.int .i64 k, .slice a1 n1 c1, .slice a2 n2 c2, .slice na L.length nc, .string s, .int .i64 p, .slice a6 n6 c6] (·.oneCell') = true from by simp [Value.oneCell'])
    go_wp2_with (first
      | (refine wpList_load_mid (op := ⟨some 81, _, _, _, _, _⟩) rfl 113 _ rfl B5 0 rfl _ _ HL.out HD.out.1.choose_spec.1 HD.out.1.choose_spec.2 HD.out.2 ?_)
      | (refine wpList_store_to (op := ⟨none, _, _, _, _, _⟩) rfl 113 _ _ rfl B4 0 #[.int .i64 k, .slice a1 n1 c1, .slice a2 n2 c2, .slice na L.length nc, .string s, .int .i64 p, .slice a6 n6 c6] rfl rfl HTH.out HD.out.2 HONE.out W2 HW2.out.symm ?_)
      | fail)
    refine bodyPost_ret (results_cell1 rfl _ _ _ rfl (run_loadVar_mid (P := Try.prog) W2 B4 0 113 [.int .i64 k, .slice a1 n1 c1, .slice a2 n2 c2, .slice na L.length nc, .string s, .int .i64 p, .slice a6 n6 c6] _ (range_of_box HE.out.1) HD.out.1.choose_spec.1 HD.out.1.choose_spec.2 HD.out.2)) rfl ?_
    have hown2 := ownsRow_turned HOWN.out HE.out.2.2 (fun g hg hc => by have := (HOWN.out.lt g hg).1; have := HBL.out; omega)
    refine ⟨⟨_, rfl, k, p, s, a1, a2, na, a6, n1, c1, n2, c2, nc, n6, c6, L, rfl, HLL.out, Rd.of_own hown2, fun x hx => ?_⟩, HE.out.2.1⟩
    have := HLr.out x hx
    omega
end Go.Proofs.Ytfljgcpfmhhgcaa
