/- Contracts of the program's disk: New, Clone. -/
import Derived.Test.YtmgogmjkoealoaaDkG
namespace Go.Proofs.Ytmgogmjkoealoaa
open Go.RowKit Go.Lab Go.Disk Go.Maps
theorem blk_info : (Try.prog.info? 74).map (fun i => (i.zero, i.size, i.bytes)) = some (some (.agg (cellsB zeros).toArray), 64, 64) := by kernel_rfl
theorem slBlocks : SlT Try.prog 67 74 (.agg (cellsB zeros).toArray) 64 64 := by
  refine ⟨by kernel_rfl, ?_, ?_, by decide⟩
  · exact blk_info
  · show (cellsB zeros).toArray.size = 64
    exact (cellsB_size zeros).trans zeros_size
def blkRow (n : Nat) : Array Value := madeCells (cellsB zeros).toArray (n * 64)
theorem blkRow_get (n j : Nat) (hj : j < n * 64) : (blkRow n)[j]? = some (.int .u8 0) := by
  unfold blkRow madeCells
  rw [Array.getElem?_map]
  have h1 : (Array.range (n * 64))[j]? = some j := by simp [hj]
  rw [h1]
  have hz : ∀ i : Nat, i < 64 → (cellsB zeros)[i]? = some (.int .u8 0) := fun i hi => by
    rw [cellsB_get zeros (by rw [zeros_size]; exact hi), zrow_nums, getD_rep]
  have hs : (cellsB zeros).toArray.size = 64 := (cellsB_size zeros).trans zeros_size
  simp only [Option.map_some, hs]
  have hm : j % 64 < 64 := Nat.mod_lt _ (by omega)
  have := hz (j % 64) hm
  have h2 : (cellsB zeros).toArray[j % 64]? = some (.int .u8 0) := by rw [List.getElem?_toArray]; exact this
  rw [getElem!_def, h2]
theorem blocksC_rep (n : Nat) : ∀ (j : Nat) (u : Value), (blocksC (List.replicate n secZ))[j]? = some u → j < n * 64 ∧ u = .int .u8 0 := by
  intro j u hu
  have hl : (blocksC (List.replicate n secZ)).length = n * 64 := by
    have := chunkm_len (f := fun x : Sec => cellsB x.text) (c := 64) (List.replicate n secZ) (fun a ha => by rw [(List.mem_replicate.1 ha).2, cellsB_len]; exact zeros_size)
    simpa [blocksC] using this
  have hj := (List.getElem?_eq_some_iff.1 hu).1
  rw [hl] at hj
  refine ⟨hj, ?_⟩
  have hm : u ∈ blocksC (List.replicate n secZ) := List.mem_of_getElem? hu
  unfold blocksC at hm
  obtain ⟨x, hx, hux⟩ := List.mem_flatMap.1 hm
  rw [(List.mem_replicate.1 hx).2] at hux
  unfold cellsB at hux
  rw [show nums secZ.text = List.replicate 64 0 from zrow_nums] at hux
  obtain ⟨y, hy, rfl⟩ := List.mem_map.1 hux
  rw [(List.mem_replicate.1 hy).2]
theorem mk_blocks (n : Nat) (h : n ≤ 4096) (W : World) : (Instr.makeSlice 67 (.int .i64 n) (.int .i64 n)).run Try.prog W = .ok (.slice (some ⟨W.heap.size, 0, none⟩) n n) (W.alloc (.cells (blkRow n) 74)) := by
  obtain ⟨i, hi, hz, hsize, hby⟩ := info_parts blk_info
  have := run_make (P := Try.prog) W 67 74 i _ (by kernel_rfl) hi hz .i64 .i64 (n : Int) (n : Int) (by omega) (by omega) (by rw [hby]; omega) (by omega)
  simp only [Int.toNat_natCast, hsize] at this
  exact this
theorem RowAt.alloc {w : World} {g : Nat} {t : TypeId} {cs : List Value} (h : RowAt w g t cs) (o : Obj) : RowAt (w.alloc o) g t cs := h.of_block (heap_alloc_old _ _ h.lt)
theorem pendView_new (n : Nat) : PendView (.map []) (List.replicate n secZ) := fun i z => by
  have : pendAt (List.replicate n secZ) i = none := by
    unfold pendAt
    rw [if_neg]
    rintro ⟨_, h2, h3⟩
    rw [atS_get h2] at h3
    simp [secZ] at h3
  rw [this]; rfl
theorem wornView_new (n : Nat) : WornView (.map []) (List.replicate n secZ) := fun i z => by
  have : wornAt (List.replicate n secZ) i = false := by
    unfold wornAt
    by_cases h2 : i.toNat < (List.replicate n secZ).length
    · rw [atS_get h2]
      simp [secZ]
    · simp only [h2, decide_false, Bool.false_and, Bool.and_false]
  rw [this]; rfl
theorem DiskIn.make {w w3 : World} {D : Dk} {g mb wb c : Nat} {l : Int} {P W : DataW Unit} (hb : Below w.heap.size w w3) (hg : w.heap.size ≤ g) (hm : w.heap.size ≤ mb) (hw : w.heap.size ≤ wb) (hne : mb ≠ wb) (hc : D.s.length ≤ c ∧ c ≤ maxLen)
    (hr : RowAt w3 g 74 (blocksC D.s)) (hp : pendMap w3 mb (size P) P) (hwm : wornMap w3 wb (size W) W) (hpv : PendView P D.s) (hwv : WornView W D.s) (hl : Lft l D.left) (hok : D.Ok) :
    DiskIn (w3.alloc (.cells #[.slice (some ⟨g, 0, none⟩) D.s.length c, .map (some mb), .map (some wb), .bool D.off, .int .i64 l] 71)) w.heap.size (w3.heap.size + 1) w3.heap.size g mb wb c l P W D := by
  have hz := hb.size
  have h1 := hr.lt
  have h2 := hp.lt
  have h3 := hwm.lt
  exact ⟨by omega, by omega, by omega, by omega, by simp, hne, hc, RowAt.new w3 _ _, hr.alloc _, hp.alloc _, hwm.alloc _, hpv, hwv, hl, hok⟩
set_option maxHeartbeats 1000000 in
theorem new_bad (n : Int) (w : World) (h : n < 1 ∨ 4096 < n) : Calls Try.prog 14 #[.int .i64 n] w fun e w' => e = .returned (.tuple #[.pointer none, .int .i64 1]) ∧ w = w' := by
  rcases h with h | h
  · go_enter Try.func14, Try.ntmps14
    go_wp2
    go_ret2
    exact ⟨rfl, rfl⟩
  · have h1 : 1 ≤ n := by omega
    go_enter Try.func14, Try.ntmps14
    go_wp2
    go_ret2
    exact ⟨rfl, rfl⟩
set_option maxHeartbeats 1000000 in
set_option maxRecDepth 100000 in
theorem new_any (n : Nat) (w : World) (h1 : 1 ≤ n) (h2 : n ≤ 4096) : Calls Try.prog 14 #[.int .i64 n] w fun e w' => ∃ p, e = .returned (.tuple #[p, .int .i64 0]) ∧ DiskAt w' w.heap.size w'.heap.size p (newD n) ∧ Below w.heap.size w w' := by
  have hmk := mk_blocks n h2
  have hmm := @run_makeMap Try.prog
  have hI1 : 1 ≤ (n : Int) := by omega
  have hI2 : (n : Int) ≤ 4096 := by omega
  go_enter Try.func14, Try.ntmps14
  go_wp2
  go_ret2
  have hb1 : Below w.heap.size w (((w.alloc (.cells (blkRow n) 74)).alloc (.map #[] 0)).alloc (.map #[] 0)) := (((Below.refl _ _).alloc (Nat.le_refl _) _).alloc (by simp) _).alloc (by simp; omega) _
  have hrow : RowAt (w.alloc (.cells (blkRow n) 74)) w.heap.size 74 (blocksC (newD n).s) := ⟨blkRow n, heap_alloc_new w _, fun j u hu => by
    obtain ⟨hj, rfl⟩ := blocksC_rep n j u hu
    exact blkRow_get n j hj⟩
  have hp := World.ownsMap_made (H := Unit) (w.alloc (.cells (blkRow n) 74)) Try.prog 3 blockElem
  have hw := World.ownsMap_made (H := Unit) ((w.alloc (.cells (blkRow n) 74)).alloc (.map #[] 0)) Try.prog 3 (plainElem Try.prog 4)
  rw [World.size_alloc] at hp
  rw [World.size_alloc, World.size_alloc] at hw
  have hm := DiskIn.make (D := newD n) (l := -1) (c := n) hb1 (Nat.le_refl _) (by omega) (by omega) (by omega) (by simp only [newD, List.length_replicate]; exact ⟨Nat.le_refl _, by unfold maxLen; omega⟩) ((hrow.alloc _).alloc _) (hp.alloc _) hw (pendView_new n) (wornView_new n) ⟨rfl, by omega⟩ (newD_ok h1 h2)
  rw [show (newD n).s.length = n by simp [newD], show (newD n).off = false from rfl] at hm
  exact ⟨_, rfl, ⟨_, w.heap.size, w.heap.size + 1, w.heap.size + 1 + 1, n, -1, .map [], .map [], rfl, by simpa using hm⟩, hb1.alloc hb1.size _⟩
end Go.Proofs.Ytmgogmjkoealoaa
