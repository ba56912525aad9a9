/- Contract: the examples of the documentation (sanity) hold. -/
import Derived.Test.YtmgogmjkoealoaaDkN
namespace Go.Proofs.Ytmgogmjkoealoaa
open Go.RowKit Go.Lab Go.Disk
/-- What sanity keeps while it plays on with its first disk. -/
structure SanInv (w1 : World) (lo hi gi gp lc hc : Nat) (vp pc : Value) (X : World) : Prop where
  im : RowAt X gi 9 [.string zeros, .string zeros]
  pe : X.ownsRow gp 3 1 vp 1 [.int .i64 0]
  cl : DiskAt X lc hc pc e1
  tn : Turn lo hi w1 X
theorem SanInv.step {w1 X Y : World} {lo hi gi gp lc hc : Nat} {vp pc : Value} (h : SanInv w1 lo hi gi gp lc hc vp pc X) (hT : Turn lo hi X Y) (h1 : hi ≤ gi) (h2 : hi ≤ gp) (h3 : hi ≤ lc) : SanInv w1 lo hi gi gp lc hc vp pc Y :=
  ⟨h.im.of_turn hT (by omega), own_turn h.pe hT h2, h.cl.keep hT (.inr h3), h.tn.trans hT⟩
theorem ints3 {X : World} {g : Nat} (h : RowAt X g 3 [.int .i64 3]) : IntsAt X (.slice (some ⟨g, 0, none⟩) 1 1) [3] :=
  ⟨(h.rd (n := 1) (k := 1) (c := 1) rfl (Nat.le_refl _) (by decide)).mono (fun _ _ => trivial), fun x hx => by simp at hx; subst hx; omega⟩
theorem run_slice_from {P : Program} {t : TypeId} {s : ByteArray} (h : P.underlying t = some .string) (h3 : 3 ≤ s.size) (w : World) : (Instr.slice t (.string s) (some (.int .i64 3)) none none).run P w = .ok (.string (s.extract 3 s.size)) w := by
  have h1 : (3 : Int) ≤ (s.size : Int) := by omega
  simp [Instr.slice, run_underlying h, Instr.sliceBounds, Instr.sliceBound, asIntOf, h1, Result.andThen]
set_option maxHeartbeats 4000000 in
set_option maxRecDepth 100000 in
theorem sanity_any (w : World) : Calls Try.prog 9 #[] w fun e w' => e = .returned (.bool true) ∧ Below w.heap.size w w' := by
  have HN := hidep (new_any 2 w (by omega) (by omega))
  have HN0 := hidep (fun X => new_bad 0 X (.inl (by omega)))
  have HF97 : Hid (∀ X, Calls Try.prog 18 #[.int .u8 97] X fun e w' => e = .returned (.string (fullZ 97)) ∧ Below X.heap.size X w') := hidep (fun X => full_any 97 X (by omega))
  have HF98 : Hid (∀ X, Calls Try.prog 18 #[.int .u8 98] X fun e w' => e = .returned (.string (fullZ 98)) ∧ Below X.heap.size X w') := hidep (fun X => full_any 98 X (by omega))
  have HF0 : Hid (∀ X, Calls Try.prog 18 #[.int .u8 0] X fun e w' => e = .returned (.string zeros) ∧ Below X.heap.size X w') := hidep (fun X => by rw [← f15]; exact full_any 0 X (by omega))
  go_enter Try.func9, Try.ntmps9
  go_upto_region 4 with (first
    | (go_at_call 14; refine HN.out.mono ?_; rintro e w1 ⟨p, rfl, hD, hb1⟩; obtain ⟨b, rfl⟩ := hD.ptr)
    | fail)
  have hrng := hD.rng
  generalize hhi : w1.heap.size = hi at hD hrng
  have HHI := hidep hhi
  clear hhi
  obtain ⟨hlh, hhz⟩ := hrng
  have HB1 := hidep hb1
  clear hb1 HN
  generalize hlo : w.heap.size = lo at hD hlh
  have HLO := hidep hlo
  clear hlo
  have i0 : -9223372036854775808 ≤ (0 : Int) ∧ (0 : Int) ≤ 9223372036854775807 := by omega
  have i1 : -9223372036854775808 ≤ (1 : Int) ∧ (1 : Int) ≤ 9223372036854775807 := by omega
  have hF : ∀ c, (fullZ c).size ≤ maxLen := fun c => by rw [fullZ_size]; decide
  have HW1 : Hid (∀ X, DiskAt X lo hi (.pointer (some ⟨b, 0, none⟩)) e0 → Calls Try.prog 17 #[.pointer (some ⟨b, 0, none⟩), .int .i64 0, .string (fullZ 97)] X fun e w' => e = .returned (.int .i64 0) ∧ DiskAt w' lo hi (.pointer (some ⟨b, 0, none⟩)) e1 ∧ Turn lo hi X w') := hidep (fun X hX => by
    have := write_any _ e0 0 (fullZ 97) X lo hi hX (hF 97) i0
    rw [f1] at this; exact this)
  have HR1 : Hid (∀ X, DiskAt X lo hi (.pointer (some ⟨b, 0, none⟩)) e1 → Calls Try.prog 16 #[.pointer (some ⟨b, 0, none⟩), .int .i64 0] X fun e w' => e = .returned (.tuple #[.string (fullZ 97), .int .i64 0]) ∧ Below X.heap.size X w') := hidep (fun X hX => by
    have := read_any _ e1 0 X lo hi hX i0
    rw [f2] at this; exact this)
  have HIM : Hid (∀ X, DiskAt X lo hi (.pointer (some ⟨b, 0, none⟩)) e1 → Calls Try.prog 15 #[.pointer (some ⟨b, 0, none⟩)] X fun e w' => ∃ g, e = .returned (.slice (some ⟨g, 0, none⟩) 2 2) ∧ X.heap.size ≤ g ∧ RowAt w' g 9 [.string zeros, .string zeros] ∧ Below X.heap.size X w') := hidep (fun X hX => by
    have := image_any _ e1 X lo hi hX
    rw [f3] at this; exact this)
  have HPE : Hid (∀ X, DiskAt X lo hi (.pointer (some ⟨b, 0, none⟩)) e1 → Calls Try.prog 22 #[.pointer (some ⟨b, 0, none⟩)] X fun e w' => ∃ v, e = .returned v ∧ w'.ownsRow X.heap.size 3 1 v 1 [.int .i64 0] ∧ Below X.heap.size X w') := hidep (fun X hX => by
    have := pending_any _ e1 X lo hi hX
    rw [f4] at this; exact this)
  have HCL : Hid (∀ X, DiskAt X lo hi (.pointer (some ⟨b, 0, none⟩)) e1 → Calls Try.prog 28 #[.pointer (some ⟨b, 0, none⟩)] X fun e w' => ∃ p', e = .returned p' ∧ DiskAt w' X.heap.size w'.heap.size p' e1 ∧ Below X.heap.size X w') := hidep (fun X hX => clone_any _ e1 X lo hi hX)
  have hS := Turn.refl lo hi w1
  go_upto_region 9 with (first
    | (go_at_call 18; refine (HF97.out _).mono ?_; rintro e wn ⟨rfl, hb⟩; have hD := hD.below hb; have hS := hS.trans (Turn.of_below hb))
    | (go_at_call 17; refine (HW1.out _ hD).mono ?_; rintro e wn ⟨rfl, hD, hT⟩; have hS := hS.trans hT)
    | (go_at_call 16; refine (HR1.out _ hD).mono ?_; rintro e wn ⟨rfl, hb⟩; have hD := hD.below hb; have hS := hS.trans (Turn.of_below hb))
    | (go_at_call 15; refine (HIM.out _ hD).mono ?_; rintro e wi ⟨gi, rfl, hgi, him, hb⟩; have hgi := Nat.le_trans hS.size hgi; have hD := hD.below hb; have hS := hS.trans (Turn.of_below hb))
    | (go_at_call 22; refine (HPE.out _ hD).mono ?_; rintro e wp ⟨vp, rfl, hpe, hb⟩; obtain ⟨gp, cp, rfl, hgp, hcp1, hcp2, hrp⟩ := RowAt.of_own hpe (by omega); have him := him.below hb; have hgpl := hS.size; have hD := hD.below hb; have hS := hS.trans (Turn.of_below hb))
    | (go_at_call 28; refine (HCL.out _ hD).mono ?_; rintro e wc ⟨pc, rfl, hcl, hb⟩; obtain ⟨bc, rfl⟩ := hcl.ptr; have hpe := own_turn hpe (Turn.of_below (lo := 0) (hi := 0) hb) (Nat.zero_le _); have him := him.below hb; have hcz := hS.size; have hD := hD.below hb; have hS := hS.trans (Turn.of_below hb))
    | fail)
  have hA1 : hi ≤ gi := by rw [← HHI.out]; exact hgi
  have hA2 : hi ≤ wi.heap.size := by rw [← HHI.out]; exact hgpl
  have hA3 : hi ≤ wp.heap.size := by rw [← HHI.out]; exact hcz
  have hI : SanInv w1 lo hi gi wi.heap.size wp.heap.size wc.heap.size (.slice (some ⟨gp, 0, none⟩) 1 cp) (.pointer (some ⟨bc, 0, none⟩)) wc := ⟨him, hpe, hcl, hS⟩
  have HST := hidep (fun (X Y : World) (h : SanInv w1 lo hi gi wi.heap.size wp.heap.size wc.heap.size (.slice (some ⟨gp, 0, none⟩) 1 cp) (.pointer (some ⟨bc, 0, none⟩)) X) (hT : Turn lo hi X Y) => h.step hT hA1 hA2 hA3)
  clear him hpe hcl hS hgi hgpl hcz hrp hcp1 hgp HW1 HR1 HIM HPE HCL hb hA1 hA2
  have HMO : Hid (∀ X g, DiskAt X lo hi (.pointer (some ⟨b, 0, none⟩)) e1 → RowAt X g 3 [.int .i64 3] → hi ≤ g → Calls Try.prog 26 #[.pointer (some ⟨b, 0, none⟩), .slice (some ⟨g, 0, none⟩) 1 1] X fun e w' => e = .returned (.tuple #[]) ∧ DiskAt w' lo hi (.pointer (some ⟨b, 0, none⟩)) e2 ∧ Turn lo hi X w') := hidep (fun X g hX hr hg => mount_any _ _ [3] e1 X lo hi hX (fun Y hY => ints3 (hr.of_turn hY (by omega))))
  have HR2 : Hid (∀ X, DiskAt X lo hi (.pointer (some ⟨b, 0, none⟩)) e2 → Calls Try.prog 16 #[.pointer (some ⟨b, 0, none⟩), .int .i64 0] X fun e w' => e = .returned (.tuple #[.string b2, .int .i64 0]) ∧ Below X.heap.size X w') := hidep (fun X hX => by
    have := read_any _ e2 0 X lo hi hX i0
    rw [f5] at this; exact this)
  have HW2 : Hid (∀ X, DiskAt X lo hi (.pointer (some ⟨b, 0, none⟩)) e2 → Calls Try.prog 17 #[.pointer (some ⟨b, 0, none⟩), .int .i64 1, .string (fullZ 97)] X fun e w' => (∃ u, e = .returned u) ∧ DiskAt w' lo hi (.pointer (some ⟨b, 0, none⟩)) e3 ∧ Turn lo hi X w') := hidep (fun X hX => (write_any _ e2 1 (fullZ 97) X lo hi hX (hF 97) i1).mono (fun e w' ⟨h1, h2, h3⟩ => ⟨⟨_, h1⟩, h2, h3⟩))
  have HFL1 : Hid (∀ X, DiskAt X lo hi (.pointer (some ⟨b, 0, none⟩)) e3 → Calls Try.prog 25 #[.pointer (some ⟨b, 0, none⟩)] X fun e w' => e = .returned (.int .i64 0) ∧ DiskAt w' lo hi (.pointer (some ⟨b, 0, none⟩)) e4 ∧ Turn lo hi X w') := hidep (fun X hX => by
    have := flush_any _ e3 X lo hi hX
    rw [f6] at this; exact this)
  have HRO : Hid (∀ X, DiskAt X lo hi (.pointer (some ⟨b, 0, none⟩)) e4 → Calls Try.prog 19 #[.pointer (some ⟨b, 0, none⟩), .int .i64 1, .int .i64 0] X fun e w' => e = .returned (.int .i64 0) ∧ DiskAt w' lo hi (.pointer (some ⟨b, 0, none⟩)) e5 ∧ Turn lo hi X w') := hidep (fun X hX => by
    have := rot_any _ e4 1 0 X lo hi hX
    rw [f7] at this; exact this)
  have HR3 : Hid (∀ X, DiskAt X lo hi (.pointer (some ⟨b, 0, none⟩)) e5 → Calls Try.prog 16 #[.pointer (some ⟨b, 0, none⟩), .int .i64 1] X fun e w' => e = .returned (.tuple #[.string x5, .int .i64 0]) ∧ Below X.heap.size X w') := hidep (fun X hX => by
    have := read_any _ e5 1 X lo hi hX i1
    rw [f8] at this; exact this)
  have HWE : Hid (∀ X, DiskAt X lo hi (.pointer (some ⟨b, 0, none⟩)) e5 → Calls Try.prog 20 #[.pointer (some ⟨b, 0, none⟩), .int .i64 0] X fun e w' => e = .returned (.int .i64 0) ∧ DiskAt w' lo hi (.pointer (some ⟨b, 0, none⟩)) e6 ∧ Turn lo hi X w') := hidep (fun X hX => by
    have := wear_any _ e5 0 X lo hi hX i0
    rw [f9] at this; exact this)
  have HTR : Hid (∀ X, DiskAt X lo hi (.pointer (some ⟨b, 0, none⟩)) e6 → Calls Try.prog 30 #[.pointer (some ⟨b, 0, none⟩), .int .i64 1] X fun e w' => e = .returned (.tuple #[]) ∧ DiskAt w' lo hi (.pointer (some ⟨b, 0, none⟩)) e7 ∧ Turn lo hi X w') := hidep (fun X hX => trip_any _ e6 1 X lo hi hX i1)
  have HW3 : Hid (∀ X, DiskAt X lo hi (.pointer (some ⟨b, 0, none⟩)) e7 → Calls Try.prog 17 #[.pointer (some ⟨b, 0, none⟩), .int .i64 0, .string (fullZ 98)] X fun e w' => e = .returned (.int .i64 0) ∧ DiskAt w' lo hi (.pointer (some ⟨b, 0, none⟩)) e8 ∧ Turn lo hi X w') := hidep (fun X hX => by
    have := write_any _ e7 0 (fullZ 98) X lo hi hX (hF 98) i0
    rw [f10] at this; exact this)
  have HFL2 : Hid (∀ X, DiskAt X lo hi (.pointer (some ⟨b, 0, none⟩)) e8 → Calls Try.prog 25 #[.pointer (some ⟨b, 0, none⟩)] X fun e w' => e = .returned (.int .i64 25) ∧ DiskAt w' lo hi (.pointer (some ⟨b, 0, none⟩)) e9 ∧ Turn lo hi X w') := hidep (fun X hX => by
    have := flush_any _ e8 X lo hi hX
    rw [f11] at this; exact this)
  have HR4 : Hid (∀ X, DiskAt X lo hi (.pointer (some ⟨b, 0, none⟩)) e9 → Calls Try.prog 16 #[.pointer (some ⟨b, 0, none⟩), .int .i64 0] X fun e w' => e = .returned (.tuple #[.string ByteArray.empty, .int .i64 25]) ∧ Below X.heap.size X w') := hidep (fun X hX => by
    have := read_any _ e9 0 X lo hi hX i0
    rw [f12] at this; exact this)
  go_upto_region 21 with (first
    | (go_at_call 26; refine (HMO.out _ _ (by exact hD.below ((Below.refl _ _).alloc (Nat.le_refl _) _)) (RowAt.new _ _ _) (by exact Nat.le_trans hA3 (by have := hI.tn.size; have := hI.cl.rng; omega))).mono ?_; rintro e wn ⟨rfl, hD, hT⟩; have hI := HST.out _ _ hI ((Turn.alloc _).trans hT))
    | (go_at_call 18; (with_reducible refine (HF97.out _).mono ?_); rintro e wn ⟨rfl, hb⟩; have hD := hD.below hb; have hI := HST.out _ _ hI (Turn.of_below hb))
    | (go_at_call 18; (with_reducible refine (HF98.out _).mono ?_); rintro e wn ⟨rfl, hb⟩; have hD := hD.below hb; have hI := HST.out _ _ hI (Turn.of_below hb))
    | (go_at_call 16; (with_reducible refine (HR2.out _ hD).mono ?_); rintro e wn ⟨rfl, hb⟩; have hD := hD.below hb; have hI := HST.out _ _ hI (Turn.of_below hb))
    | (go_at_call 16; (with_reducible refine (HR3.out _ hD).mono ?_); rintro e wn ⟨rfl, hb⟩; have hD := hD.below hb; have hI := HST.out _ _ hI (Turn.of_below hb))
    | (go_at_call 16; (with_reducible refine (HR4.out _ hD).mono ?_); rintro e wn ⟨rfl, hb⟩; have hD := hD.below hb; have hI := HST.out _ _ hI (Turn.of_below hb))
    | (go_at_call 17; (with_reducible refine (HW2.out _ hD).mono ?_); rintro e wn ⟨⟨uw, rfl⟩, hD, hT⟩; have hI := HST.out _ _ hI hT)
    | (go_at_call 17; (with_reducible refine (HW3.out _ hD).mono ?_); rintro e wn ⟨rfl, hD, hT⟩; have hI := HST.out _ _ hI hT)
    | (go_at_call 25; (with_reducible refine (HFL1.out _ hD).mono ?_); rintro e wn ⟨rfl, hD, hT⟩; have hI := HST.out _ _ hI hT)
    | (go_at_call 25; (with_reducible refine (HFL2.out _ hD).mono ?_); rintro e wn ⟨rfl, hD, hT⟩; have hI := HST.out _ _ hI hT)
    | (go_at_call 19; (with_reducible refine (HRO.out _ hD).mono ?_); rintro e wn ⟨rfl, hD, hT⟩; have hI := HST.out _ _ hI hT)
    | (go_at_call 20; (with_reducible refine (HWE.out _ hD).mono ?_); rintro e wn ⟨rfl, hD, hT⟩; have hI := HST.out _ _ hI hT)
    | (go_at_call 30; (with_reducible refine (HTR.out _ hD).mono ?_); rintro e wn ⟨rfl, hD, hT⟩; have hI := HST.out _ _ hI hT)
    | (go_at_call 14; refine (HN0.out _).mono ?_; rintro e wn ⟨rfl, rfl⟩)
    | fail)
  clear HMO HR2 HW2 HFL1 HRO HR3 HWE HTR HW3 HFL2 HR4 HN0 HF98
  have HRC : Hid (∀ X lc hc, DiskAt X lc hc (.pointer (some ⟨bc, 0, none⟩)) e1 → Calls Try.prog 16 #[.pointer (some ⟨bc, 0, none⟩), .int .i64 0] X fun e w' => e = .returned (.tuple #[.string (fullZ 97), .int .i64 0]) ∧ Below X.heap.size X w') := hidep (fun X lc hc hX => by
    have := read_any _ e1 0 X lc hc hX i0
    rw [f2] at this; exact this)
  have HWO : Hid (∀ X, DiskAt X lo hi (.pointer (some ⟨b, 0, none⟩)) e9 → Calls Try.prog 23 #[.pointer (some ⟨b, 0, none⟩)] X fun e w' => ∃ a c, e = .returned (.slice a 1 c) ∧ Below X.heap.size X w') := hidep (fun X hX => (worn_any _ e9 X lo hi hX).mono (fun e w' ⟨v, he, ho, hb⟩ => by
    rw [f13] at ho
    obtain ⟨a, c, rfl, _, _⟩ := (Rd.of_own ho).form
    exact ⟨a, c, he, hb⟩))
  have hq5 : ((x5.size : Int) != 64) = false := by rw [f16.1]; rfl
  clear i0 i1 hF
  go_upto_region 26 with (first
    | (go_at_call 16; refine (HRC.out _ _ _ hI.cl).mono ?_; rintro e wn ⟨rfl, hb⟩; have hD := hD.below hb; have hI := HST.out _ _ hI (Turn.of_below hb))
    | (go_at_call 23; refine (HWO.out _ hD).mono ?_; rintro e wn ⟨av, cv, rfl, hb⟩; have hD := hD.below hb; have hI := HST.out _ _ hI (Turn.of_below hb))
    | fail)
  clear HRC HWO hq5 HST
  have HDD := hidep hD
  have HII := hidep hI
  clear hD hI
  have hx51 : 0 < x5.size := by rw [f16.1]; omega
  have hx52 : ((x5[0]'hx51).toNat : Int) = 96 := by
    have h1 := nums_get x5 hx51
    rw [f16.2] at h1
    simp only [List.getElem?_cons_zero, Option.some.injEq] at h1
    exact h1.symm
  obtain ⟨T, hT⟩ : ∃ T, zeros.extract 3 zeros.size = T := ⟨_, rfl⟩
  have hsl : ∀ W, (Instr.slice 9 (.string zeros) (some (.int .i64 3)) none none).run Try.prog W = .ok (.string T) W := fun W => by
    rw [← hT]; exact run_slice_from Try.underlying9 (by rw [zeros_size]; omega) W
  have hadd : ∀ W, (Op.stringOp .add { data := #[97, 97, 97] } T).run Try.prog W = .ok (.string b2) W := fun W => by
    rw [run_string_add_sum W _ _ (by rw [← hT, extract_size, zeros_size]; decide), f17, ← hT, zeros_size]
  clear hT
  have hb2 : (b2.toList == b2.toList) = true := by simp
  have HUD : Hid (∀ X, Below wn.heap.size wn X → Calls Try.prog 27 #[.pointer (some ⟨b, 0, none⟩)] X fun e w' => e = .returned (.bool false) ∧ X = w') := hidep (fun X hX => by
    have := up_any _ e9 X lo hi (HDD.out.below hX)
    rw [f14.1] at this; exact this)
  have HUC : Hid (∀ X, Below wn.heap.size wn X → Calls Try.prog 27 #[.pointer (some ⟨bc, 0, none⟩)] X fun e w' => e = .returned (.bool true) ∧ X = w') := hidep (fun X hX => by
    have := up_any _ e1 X _ _ (HII.out.cl.below hX)
    rw [f14.2.2] at this; exact this)
  have HLD : Hid (∀ X, Below wn.heap.size wn X → Calls Try.prog 31 #[.pointer (some ⟨b, 0, none⟩)] X fun e w' => e = .returned (.int .i64 2) ∧ X = w') := hidep (fun X hX => by
    have := len_any _ e9 X lo hi (HDD.out.below hX)
    rw [f14.2.1] at this; exact this)
  have HS := hidep (fun X (hX : Below wn.heap.size wn X) => (show X.cell? ⟨gi, 0, none⟩ = some (.string zeros) ∧ X.cell? ⟨gp, 0, none⟩ = some (.int .i64 0) from by
    refine ⟨((HII.out.im).of_block (hX.block _ HII.out.im.lt)).cell rfl, ?_⟩
    obtain ⟨gq, cq, hgq, _, _, _, hrq⟩ := RowAt.of_own HII.out.pe (by omega)
    injection hgq with hgq
    injection hgq with hgq
    injection hgq with hgq
    subst hgq
    exact (hrq.of_block (hX.block _ hrq.lt)).cell rfl))
  have hX : Below wn.heap.size wn wn.drew := (Below.refl _ _).drew
  generalize fullZ 97 = F at *
  simp only [List.append_eq, List.cons_append, List.nil_append]
  go_region_held3 (fun w' => w'.cell? ⟨gi, 0, none⟩ = some (.string zeros) ∧ w'.cell? ⟨gp, 0, none⟩ = some (.int .i64 0))
    (exact HS.out _ hX)
    (first
      | (go_at_call 18; (with_reducible refine (HF97.out _).mono ?_); rintro e wn ⟨rfl, hb⟩; have hX := hX.trans (hb.mono hX.size); dsimp only)
      | (go_at_call 18; (with_reducible refine (HF0.out _).mono ?_); rintro e wn ⟨rfl, hb⟩; have hX := hX.trans (hb.mono hX.size); dsimp only)
      | (go_at_call 27; (with_reducible refine (HUD.out _ hX).mono ?_); rintro e wn ⟨rfl, rfl⟩; dsimp only)
      | (go_at_call 27; (with_reducible refine (HUC.out _ hX).mono ?_); rintro e wn ⟨rfl, rfl⟩; dsimp only)
      | (go_at_call 31; (with_reducible refine (HLD.out _ hX).mono ?_); rintro e wn ⟨rfl, rfl⟩; dsimp only))
  all_goals
    go_wp2
    go_ret
    have q1 := HII.out.tn.below (B := lo) (Nat.le_refl _) (by rw [HHI.out]; omega)
    rw [← HLO.out] at q1
    have q2 := HB1.out.trans q1
    exact ⟨rfl, q2.trans (hX.mono q2.size)⟩
end Go.Proofs.Ytmgogmjkoealoaa
