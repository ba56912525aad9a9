/- Contract: one operation of a script, played on the program's disk. -/
import Derived.Test.YtmgogmjkoealoaaDkJ
namespace Go.Proofs.Ytmgogmjkoealoaa
open Go.RowKit Go.Lab Go.Disk
/-- What an operation answers, and what becomes of the disk. -/
def doE (D : Dk) (o : Disk.Op) : ByteArray × Int :=
  if o.kind = 1 then (ByteArray.empty, writeE D o.i (textZ o.text)) else if o.kind = 2 then readZ D o.i else if o.kind = 3 then (ByteArray.empty, flushE D) else
  if o.kind = 4 then (ByteArray.empty, 0) else if o.kind = 5 then (ByteArray.empty, 0) else if o.kind = 6 then (ByteArray.empty, if rotOk D o.i o.bit = true then 0 else 1) else
  if o.kind = 7 then (ByteArray.empty, if D.isIn o.i = true then 0 else 1) else (ByteArray.empty, 0)
def doD (D : Dk) (o : Disk.Op) : Dk :=
  if o.kind = 1 then writeD D o.i (textZ o.text) else if o.kind = 2 then D else if o.kind = 3 then flushD D else
  if o.kind = 4 then tripD D o.i else if o.kind = 5 then mountD D o.picks else if o.kind = 6 then rotD D o.i o.bit else
  if o.kind = 7 then wearD D o.i else D
def OpOk (o : Disk.Op) : Prop := (-9223372036854775808 ≤ o.kind ∧ o.kind ≤ 9223372036854775807) ∧ (-9223372036854775808 ≤ o.i ∧ o.i ≤ 9223372036854775807) ∧ (-9223372036854775808 ≤ o.bit ∧ o.bit ≤ 9223372036854775807) ∧ o.text.size ≤ maxLen
theorem do_none {D : Dk} {kind i bit : Int} {text : ByteArray} {picks : List Int} (k1 : ¬ kind = 1) (k2 : ¬ kind = 2) (k3 : ¬ kind = 3) (k4 : ¬ kind = 4) (k5 : ¬ kind = 5) (k6 : ¬ kind = 6) (k7 : ¬ kind = 7) :
    doE D ⟨kind, i, bit, text, picks⟩ = (ByteArray.empty, 0) ∧ doD D ⟨kind, i, bit, text, picks⟩ = D := by
  unfold doE doD
  simp [k1, k2, k3, k4, k5, k6, k7]
set_option maxHeartbeats 2000000 in
set_option maxRecDepth 100000 in
theorem do_any (p pv : Value) (o : Disk.Op) (D : Dk) (w : World) (lo hi : Nat) (h : DiskAt w lo hi p D) (ho : OpOk o) (hp : ∀ X, Turn lo hi w X → IntsAt X pv o.picks) :
    Calls Try.prog 11 #[p, .agg #[.int .i64 o.kind, .int .i64 o.i, .int .i64 o.bit, .string o.text, pv]] w fun e w' => e = .returned (.tuple #[.string (doE D o).1, .int .i64 (doE D o).2]) ∧ DiskAt w' lo hi p (doD D o) ∧ Turn lo hi w w' := by
  have hrng := h.rng
  have hA : ∀ X, Below w.heap.size w X → DiskAt X lo hi p D := fun X hX => h.below hX
  have HA := hidep hA
  have HP := hidep hp
  have hpt : ∃ b, p = .pointer (some ⟨b, 0, none⟩) := by
    obtain ⟨b, rest⟩ := h
    obtain ⟨g, mb, wb, c, l, P, W, hp, _⟩ := rest
    exact ⟨b, hp⟩
  obtain ⟨b, rfl⟩ := hpt
  obtain ⟨pa, pc, rfl, hpc1, hpc2⟩ := (hp w (Turn.refl _ _ _)).1.form
  clear hA hp h hpc1 hpc2
  obtain ⟨kind, i, bit, text, picks⟩ := o
  obtain ⟨ho1, ho2, ho3, ho4⟩ := ho
  simp only at ho1 ho2 ho3 ho4 HP
  have hx0 : Below w.heap.size w (w.alloc (.cells #[.int .i64 kind, .int .i64 i, .int .i64 bit, .string text, .slice pa picks.length pc] 33)) := (Below.refl _ _).alloc (Nat.le_refl _) _
  have HX := hidep hx0
  clear hx0
  by_cases k1 : kind = 1
  · subst k1
    have HE : Hid (doE D ⟨1, i, bit, text, picks⟩ = (ByteArray.empty, writeE D i (textZ text)) ∧ doD D ⟨1, i, bit, text, picks⟩ = writeD D i (textZ text)) := hidep ⟨rfl, rfl⟩
    have hlo : ¬ (lo ≤ w.heap.size ∧ w.heap.size < hi) := by omega
    have HT : Hid (∀ X, Calls Try.prog 24 #[.agg #[.int .i64 1, .int .i64 i, .int .i64 bit, .string text, .slice pa picks.length pc]] X fun e w' => e = .returned (.string (textZ text)) ∧ Below X.heap.size X w') := hidep (fun X => text_any 1 i bit text _ X ho4)
    have HW : Hid (∀ X, Below w.heap.size w X → Calls Try.prog 17 #[.pointer (some ⟨b, 0, none⟩), .int .i64 i, .string (textZ text)] X fun e w' => e = .returned (.int .i64 (writeE D i (textZ text))) ∧ DiskAt w' lo hi (.pointer (some ⟨b, 0, none⟩)) (writeD D i (textZ text)) ∧ Turn lo hi X w') :=
      hidep (fun X hX => write_any _ D i (textZ text) X lo hi (HA.out _ hX) (textZ_le ho4) ho2)
    generalize textZ text = tx at *
    generalize writeE D i tx = we at *
    have hwx : (w.alloc (.cells #[.int .i64 1, .int .i64 i, .int .i64 bit, .string text, .slice pa picks.length pc] 33)).heap[w.heap.size]? = some (.cells #[.int .i64 1, .int .i64 i, .int .i64 bit, .string text, .slice pa picks.length pc] 33 (0, 0)) := heap_alloc_new _ _
    have hcl : ∀ X : World, X.heap[w.heap.size]? = some (.cells #[.int .i64 1, .int .i64 i, .int .i64 bit, .string text, .slice pa picks.length pc] 33 (0, 0)) → X.cell? ⟨w.heap.size, 0, none⟩ = some (.int .i64 1) ∧ X.cell? ⟨w.heap.size, 1, none⟩ = some (.int .i64 i) ∧ X.cell? ⟨w.heap.size, 2, none⟩ = some (.int .i64 bit) ∧ X.cell? ⟨w.heap.size, 3, none⟩ = some (.string text) ∧ X.cell? ⟨w.heap.size, 4, none⟩ = some (.slice pa picks.length pc) := fun X hX => by simp [World.cell?, hX]
    have HCL := hidep hcl
    have hwl : w.heap.size < (w.alloc (.cells #[.int .i64 1, .int .i64 i, .int .i64 bit, .string text, .slice pa picks.length pc] 33)).heap.size := by simp
    clear hcl ho1 ho2 ho3 ho4
    go_enter Try.func11, Try.ntmps11
    go_upto_region 3 with (fail)
    have h1 := True.intro
    have h2 := True.intro
    go_region_held3 (fun w' => w'.cell? ⟨w.heap.size, 0, none⟩ = some (.int .i64 1) ∧ w'.cell? ⟨w.heap.size, 1, none⟩ = some (.int .i64 i) ∧ w'.cell? ⟨w.heap.size, 2, none⟩ = some (.int .i64 bit) ∧ w'.cell? ⟨w.heap.size, 3, none⟩ = some (.string text) ∧ w'.cell? ⟨w.heap.size, 4, none⟩ = some (.slice pa picks.length pc))
      (first
        | exact HCL.out _ hwx
        | exact HCL.out _ h1
        | exact HCL.out _ h2)
      (first
        | (go_at_call 24; refine (HT.out _).mono ?_; rintro e w1 ⟨rfl, hb1⟩; have h1 := (hb1.block _ (by exact hwl)).trans hwx; have hbb : Below w.heap.size w w1 := HX.out.drew.trans (hb1.mono (by exact Nat.le_of_lt hwl)); dsimp only)
        | (go_at_call 17; refine (HW.out _ hbb).mono ?_; rintro e w2 ⟨rfl, hD2, hT2⟩; have h2 := (hT2.block _ (lt_of_block h1) hlo).trans h1; dsimp only))
    all_goals go_wp2
    all_goals go_ret2
    all_goals exact ⟨ret_two HE.out.1.symm, by rw [HE.out.2]; exact hD2, (Turn.of_below hbb).trans hT2⟩
  have q1 : (kind == 1) = false := by simpa using k1
  by_cases k2 : kind = 2
  · subst k2
    have HE : Hid (doE D ⟨2, i, bit, text, picks⟩ = readZ D i ∧ doD D ⟨2, i, bit, text, picks⟩ = D) := hidep ⟨rfl, rfl⟩
    clear k1 q1
    go_enter Try.func11, Try.ntmps11
    go_wp2_with (go_at_call 16; refine (read_any _ D i _ lo hi (HA.out _ HX.out) ho2).mono ?_; rintro e w2 ⟨rfl, hb2⟩; have hbb := HX.out.trans (hb2.mono HX.out.size))
    go_ret2
    exact ⟨ret_two HE.out.1.symm, by rw [HE.out.2]; exact HA.out _ hbb, Turn.of_below hbb⟩
  have q2 : (kind == 2) = false := by simpa using k2
  by_cases k3 : kind = 3
  · subst k3
    have HE : Hid (doE D ⟨3, i, bit, text, picks⟩ = (ByteArray.empty, flushE D) ∧ doD D ⟨3, i, bit, text, picks⟩ = flushD D) := hidep ⟨rfl, rfl⟩
    clear k1 k2 q1 q2
    go_enter Try.func11, Try.ntmps11
    go_wp2_with (go_at_call 25; refine (flush_any _ D _ lo hi (HA.out _ HX.out)).mono ?_; rintro e w2 ⟨rfl, hD2, hT2⟩)
    go_ret2
    exact ⟨ret_two HE.out.1.symm, by rw [HE.out.2]; exact hD2, (Turn.of_below HX.out).trans hT2⟩
  have q3 : (kind == 3) = false := by simpa using k3
  by_cases k4 : kind = 4
  · subst k4
    have HE : Hid (doE D ⟨4, i, bit, text, picks⟩ = (ByteArray.empty, 0) ∧ doD D ⟨4, i, bit, text, picks⟩ = tripD D i) := hidep ⟨rfl, rfl⟩
    clear k1 k2 k3 q1 q2 q3
    go_enter Try.func11, Try.ntmps11
    go_wp2_with (go_at_call 30; refine (trip_any _ D i _ lo hi (HA.out _ HX.out) ho2).mono ?_; rintro e w2 ⟨rfl, hD2, hT2⟩)
    go_ret2
    exact ⟨ret_two HE.out.1.symm, by rw [HE.out.2]; exact hD2, (Turn.of_below HX.out).trans hT2⟩
  have q4 : (kind == 4) = false := by simpa using k4
  by_cases k5 : kind = 5
  · subst k5
    have HE : Hid (doE D ⟨5, i, bit, text, picks⟩ = (ByteArray.empty, 0) ∧ doD D ⟨5, i, bit, text, picks⟩ = mountD D picks) := hidep ⟨rfl, rfl⟩
    clear k1 k2 k3 k4 q1 q2 q3 q4
    go_enter Try.func11, Try.ntmps11
    go_wp2_with (go_at_call 26; refine (mount_any _ _ picks D _ lo hi (HA.out _ HX.out) (fun X hX => HP.out X ((Turn.of_below HX.out).trans hX))).mono ?_; rintro e w2 ⟨rfl, hD2, hT2⟩)
    go_ret2
    exact ⟨ret_two HE.out.1.symm, by rw [HE.out.2]; exact hD2, (Turn.of_below HX.out).trans hT2⟩
  have q5 : (kind == 5) = false := by simpa using k5
  by_cases k6 : kind = 6
  · subst k6
    have HE : Hid (doE D ⟨6, i, bit, text, picks⟩ = (ByteArray.empty, if rotOk D i bit = true then 0 else 1) ∧ doD D ⟨6, i, bit, text, picks⟩ = rotD D i bit) := hidep ⟨rfl, rfl⟩
    obtain ⟨re, hre⟩ : ∃ re, (if rotOk D i bit = true then (0 : Int) else 1) = re := ⟨_, rfl⟩
    have HR := hidep hre
    have HQ : Hid (∀ X, Below w.heap.size w X → Calls Try.prog 19 #[.pointer (some ⟨b, 0, none⟩), .int .i64 i, .int .i64 bit] X fun e w' => e = .returned (.int .i64 re) ∧ DiskAt w' lo hi (.pointer (some ⟨b, 0, none⟩)) (rotD D i bit) ∧ Turn lo hi X w') := hidep (fun X hX => by rw [← hre]; exact rot_any _ D i bit X lo hi (HA.out _ hX))
    rw [hre] at HE
    clear hre k1 k2 k3 k4 k5 q1 q2 q3 q4 q5
    go_enter Try.func11, Try.ntmps11
    go_wp2_with (go_at_call 19; refine (HQ.out _ HX.out).mono ?_; rintro e w2 ⟨rfl, hD2, hT2⟩)
    go_ret2
    exact ⟨ret_two HE.out.1.symm, by rw [HE.out.2]; exact hD2, (Turn.of_below HX.out).trans hT2⟩
  have q6 : (kind == 6) = false := by simpa using k6
  by_cases k7 : kind = 7
  · subst k7
    have HE : Hid (doE D ⟨7, i, bit, text, picks⟩ = (ByteArray.empty, if D.isIn i = true then 0 else 1) ∧ doD D ⟨7, i, bit, text, picks⟩ = wearD D i) := hidep ⟨rfl, rfl⟩
    obtain ⟨re, hre⟩ : ∃ re, (if D.isIn i = true then (0 : Int) else 1) = re := ⟨_, rfl⟩
    have HR := hidep hre
    have HQ : Hid (∀ X, Below w.heap.size w X → Calls Try.prog 20 #[.pointer (some ⟨b, 0, none⟩), .int .i64 i] X fun e w' => e = .returned (.int .i64 re) ∧ DiskAt w' lo hi (.pointer (some ⟨b, 0, none⟩)) (wearD D i) ∧ Turn lo hi X w') := hidep (fun X hX => by rw [← hre]; exact wear_any _ D i X lo hi (HA.out _ hX) ho2)
    rw [hre] at HE
    clear hre k1 k2 k3 k4 k5 k6 q1 q2 q3 q4 q5 q6
    go_enter Try.func11, Try.ntmps11
    go_wp2_with (go_at_call 20; refine (HQ.out _ HX.out).mono ?_; rintro e w2 ⟨rfl, hD2, hT2⟩)
    go_ret2
    exact ⟨ret_two HE.out.1.symm, by rw [HE.out.2]; exact hD2, (Turn.of_below HX.out).trans hT2⟩
  have q7 : (kind == 7) = false := by simpa using k7
  have HE : Hid (doE D ⟨kind, i, bit, text, picks⟩ = (ByteArray.empty, 0) ∧ doD D ⟨kind, i, bit, text, picks⟩ = D) := hidep (do_none k1 k2 k3 k4 k5 k6 k7)
  clear k1 k2 k3 k4 k5 k6 k7
  go_enter Try.func11, Try.ntmps11
  go_wp2
  go_ret2
  exact ⟨ret_two HE.out.1.symm, by rw [HE.out.2]; exact HA.out _ HX.out, Turn.of_below HX.out⟩
end Go.Proofs.Ytmgogmjkoealoaa
