/- Contract of the reference: New. -/
import Derived.Test.YtmgogmjkoealoaaDkY
import Derived.OneCell
namespace Go.Proofs.Ytmgogmjkoealoaa
open Go.RowKit Go.Lab Go.Disk
def zrow : Array Value := madeCells #[.int .u8 0] 64
theorem mk_bytes (W : World) : (Instr.makeSlice 72 (.int .i64 64) (.int .i64 64)).run Try.prog W = .ok (.slice (some ⟨W.heap.size, 0, none⟩) 64 64) (W.alloc (.cells zrow 5)) :=
  run_make_row' 72 5 (.int .u8 0) 1 Try.underlying72 (by kernel_rfl) rfl .i64 .i64 64 (by omega) (by omega) W
theorem zrow_list : zrow.toList = List.replicate 64 (.int .u8 0) := toList_madeCells_one _ _
theorem zrow_get (j : Nat) (hj : j < 64) : zrow[j]? = some (.int .u8 0) := by
  rw [← Array.getElem?_toList, zrow_list, List.getElem?_replicate, if_pos hj]
theorem zrow_nums : nums zeros = List.replicate 64 0 := by decide
theorem getD_rep (k j : Nat) : (List.replicate k (0 : Int)).getD j 0 = 0 := by
  rw [List.getD_eq_getElem?_getD, List.getElem?_replicate]
  split <;> rfl
theorem zrow_in {W W' : World} (hb : W'.heap[W.heap.size]? = some (.cells zrow 5 (0, 0))) : BytesIn W' W.heap.size (nums zeros) := by
  refine ⟨lt_of_block hb, fun j hj => ?_, fun j _ => by simp [World.frozen?, hb]⟩
  rw [zrow_nums] at hj ⊢
  have hj2 : j < 64 := by simpa using hj
  simp only [World.cell?, hb]
  rw [getD_rep]
  simpa using zrow_get j hj2
theorem cv_zrow (W W' : World) (hb : W'.heap[W.heap.size]? = some (.cells zrow 5 (0, 0))) : (convert 72 9 (.slice (some ⟨W.heap.size, 0, none⟩) 64 64)).run Try.prog W' = .ok (.string zeros) W' := by
  have := run_str_of (zrow_in hb) 64 64 (by rw [nums_len]; exact zeros_size)
  rw [str_nums] at this
  exact this
theorem three_cell {w : World} {b : Nat} {x y z : Value} {t : TypeId} (h : w.heap[b]? = some (.cells #[x, y, z] t (0, 0))) :
    w.cell? ⟨b, 0, none⟩ = some x ∧ w.cell? ⟨b, 1, none⟩ = some y ∧ w.cell? ⟨b, 2, none⟩ = some z := by simp [World.cell?, h]
theorem three_free {w : World} {b o : Nat} {x y z : Value} {t : TypeId} (h : w.heap[b]? = some (.cells #[x, y, z] t (0, 0))) : w.frozen? ⟨b, o, none⟩ = false := by simp [World.frozen?, h]
theorem three_setCell0 {w : World} {b : Nat} {x y z u : Value} {t : TypeId} (h : w.heap[b]? = some (.cells #[x, y, z] t (0, 0))) : (w.setCell ⟨b, 0, none⟩ u).heap[b]? = some (.cells #[u, y, z] t (0, 0)) := by
  rw [heap_setCell_same w b 0 _ t u h]
  rfl
theorem secsC_rep (j : Nat) : secsC (List.replicate (j + 1) secZ) = secsC (List.replicate j secZ) ++ [.string zeros, .string ⟨#[]⟩, .bool false, .bool false] := by
  rw [List.replicate_succ']
  unfold secsC
  rw [List.flatMap_append]
  rfl
theorem new_step {w w2 : World} {v u : Value} {j : Nat} (hB : w2.heap[w.heap.size]? = some (.cells #[v, .bool false, .int .i64 (-1)] 57 (0, 0)))
    (ho : w2.ownsRow (w.heap.size + 1) 54 4 u (j + 1) (secsC (List.replicate j secZ) ++ [.string zeros, .string ⟨#[]⟩, .bool false, .bool false])) (hb : Below w.heap.size w w2) (hne : u.ownBlock ≠ some w.heap.size) :
    (w2.setCell ⟨w.heap.size, 0, none⟩ u).heap[w.heap.size]? = some (.cells #[u, .bool false, .int .i64 (-1)] 57 (0, 0)) ∧ (w2.setCell ⟨w.heap.size, 0, none⟩ u).ownsRow (w.heap.size + 1) 54 4 u (j + 1) (secsC (List.replicate (j + 1) secZ)) ∧ Below w.heap.size w (w2.setCell ⟨w.heap.size, 0, none⟩ u) := by
  refine ⟨three_setCell0 hB, ?_, hb.setCell (Nat.le_refl _) _⟩
  rw [secsC_rep]
  exact ownsRow_setCell_other ho hne u
set_option maxHeartbeats 2000000 in
set_option maxRecDepth 100000 in
theorem rnew_any (n : Nat) (w : World) (h1 : 1 ≤ n) (h2 : n ≤ 4096) :
    Calls Try.prog 32 #[.int .i64 n] w fun e w' => ∃ p, e = .returned (.tuple #[p, .int .i64 0]) ∧ RDiskAt w' w.heap.size w'.heap.size p (newD n) ∧ Below w.heap.size w w' := by
  go_enter Try.func32, Try.ntmps32
  go_wp2
  go_loopw [5] (fun i wr => ∃ (j : Nat) (v : Value), j ≤ n ∧ i = .int .i64 j ∧ wr.heap[w.heap.size]? = some (.cells #[v, .bool false, .int .i64 (-1)] 57 (0, 0)) ∧ wr.ownsRow (w.heap.size + 1) 54 4 v j (secsC (List.replicate j secZ)) ∧ Hid (Below w.heap.size w wr)) (fun i _ => n - (RowKit.intOf i).toNat)
  case atStart => exact ⟨0, .slice none 0 0, Nat.zero_le _, rfl, heap_alloc_new _ _, World.ownsRow_nil _ _ _ _, hidep ((Below.refl _ _).alloc (Nat.le_refl _) _)⟩
  case round =>
    obtain ⟨j, v, hj, rfl, hblk, hown, HB⟩ := hrel
    by_cases hlt : j < n
    · have hz := HB.out.size
      have hbl := lt_of_block hblk
      have HOW := hidep hown
      obtain ⟨av, cv, rfl, hcv, hcv2⟩ := (Rd.of_own hown).form
      unfold maxLen at hcv2
      clear hown
      have cb := (three_cell hblk).1
      have fb := three_free (o := 0) hblk
      have HBL := hidep hblk
      clear hblk
      go_upto_region 7 with (fail)
      have hmk := mk_bytes
      have hcv := cv_zrow wr (wr.alloc (.cells zrow 5)).drew (heap_alloc_new wr (.cells zrow 5))
      have hfr : Rd ((wr.alloc (.cells zrow 5)).alloc (.cells #[.string zeros, .string ⟨#[]⟩, .bool false, .bool false] 54)).drew (· = 54) 4 (.slice (some ⟨wr.heap.size + 1, 0, none⟩) 1 1) 1 [.string zeros, .string ⟨#[]⟩, .bool false, .bool false] := by
        have := Rd.fresh (wr.alloc (.cells zrow 5)) #[.string zeros, .string ⟨#[]⟩, .bool false, .bool false] 54 4 1 rfl (by decide)
        rw [World.size_alloc] at this
        exact this
      have how2 : ((wr.alloc (.cells zrow 5)).alloc (.cells #[.string zeros, .string ⟨#[]⟩, .bool false, .bool false] 54)).drew.ownsRow (w.heap.size + 1) 54 4 (.slice av j cv) j (secsC (List.replicate j secZ)) := (HOW.out.alloc _).alloc _
      have hbb : Below wr.heap.size wr ((wr.alloc (.cells zrow 5)).alloc (.cells #[.string zeros, .string ⟨#[]⟩, .bool false, .bool false] 54)).drew := (((Below.refl _ _).alloc (Nat.le_refl _) _).alloc (by simp) _).drew
      go_region_law (first
        | (refine step_append_rd _ (by rfl) (.tmp 23) (.tmp 27) (by rfl) slSecs (w.heap.size + 1) (.slice av j cv) j _ (by rfl) (by exact how2) _ _ _ _ (by rfl) (by exact hfr) (by intro u hu; simp at hu; rcases hu with rfl | rfl | rfl <;> rfl) (by unfold maxLen; omega) (by omega) (by simp; omega) ?_; intro v2 w2 hown2 hgr2 hat hnl; clear hat hnl; have hB2 := (hgr2.block _ (Nat.lt_of_lt_of_le hbl hbb.size) (fun e => by have := (HOW.out.lt _ e.symm).1; omega)).trans ((hbb.block _ hbl).trans HBL.out); have cb2 := (three_cell hB2).1; have fb2 := three_free (o := 0) hB2; obtain ⟨g2, c2, rfl, hg2, hcc1, hcc2, hrow2⟩ := RowAt.of_own hown2 (by omega); dsimp only)
        | fail)
      all_goals
        have hbf : Below w.heap.size w w2 := (HB.out.trans (hbb.mono hz)).grown hgr2 (Nat.le_trans hz hbb.size) (fun g hg => by have := (HOW.out.lt g hg).1; omega)
        have hrel2 := new_step (u := .slice (some ⟨g2, 0, none⟩) (j + 1) c2) hB2 hown2 hbf (by simp [Value.ownBlock]; omega)
        clear hmk hcv hfr how2 hbb hgr2 hB2 cb2 fb2 hown2 hrow2 hbf
        have HREL := hidep hrel2
        clear hrel2
        go_wp2
        go_roundw
        case rel => exact ⟨j + 1, _, by omega, by go_num, HREL.out.1, HREL.out.2.1, hidep HREL.out.2.2⟩
        case measure => simp [RowKit.intOf]; omega
    · have hjn : j = n := by omega
      subst hjn
      obtain ⟨g2, c2, rfl, hg2, hcc1, hcc2, hrow2⟩ := RowAt.of_own hown (by omega)
      go_wp2
      go_ret2
      refine ⟨_, rfl, ⟨w.heap.size, g2, c2, rfl, ?_⟩, HB.out⟩
      have hgl := hrow2.lt
      have hbl := lt_of_block hblk
      exact ⟨by omega, by omega, Nat.le_refl _, by simp only [newD, List.length_replicate]; exact ⟨hcc1, hcc2⟩, by simp only [newD, List.length_replicate]; exact ⟨_, hblk, fun j u hu => by simpa using hu⟩, hrow2, newD_ok h1 h2, fun x hx _ => by rw [(List.mem_replicate.1 hx).2]; rfl⟩
end Go.Proofs.Ytmgogmjkoealoaa
