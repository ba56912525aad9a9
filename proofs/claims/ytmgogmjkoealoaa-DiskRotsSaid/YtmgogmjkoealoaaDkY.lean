/- Contracts of the reference: Clone, New, and the text of an operation. -/
import Derived.Test.YtmgogmjkoealoaaDkX
namespace Go.Proofs.Ytmgogmjkoealoaa
open Go.RowKit Go.Lab Go.Disk
theorem RowAt.rd {w : World} {g : Nat} {t : TypeId} {cs : List Value} (h : RowAt w g t cs) {n k c : Nat} (hl : cs.length = n * k) (hc : n ≤ c) (hm : c ≤ maxLen) : Rd w (· = t) k (.slice (some ⟨g, 0, none⟩) n c) n cs := by
  obtain ⟨cur, hb, hcur⟩ := h
  refine ⟨hl, some ⟨g, 0, none⟩, c, rfl, hc, hm, (fun e => by cases e), fun ad e _ => ?_⟩
  injection e with e
  subst e
  exact ⟨rfl, cur, t, (0, 0), rfl, hb, fun j u hu => by rw [Nat.zero_add]; exact hcur j u hu⟩
theorem secsC_one (S : List Sec) : ∀ u ∈ secsC S, u.oneCell' = true := by
  intro u hu
  obtain ⟨x, _, hx⟩ := List.mem_flatMap.1 hu
  simp [secC] at hx
  rcases hx with rfl | rfl | rfl | rfl <;> rfl
theorem slSecs : SlT Try.prog 55 54 (.agg #[.string ByteArray.empty, .string ByteArray.empty, .bool false, .bool false]) 4 40 := ⟨by kernel_rfl, by kernel_rfl, rfl, by decide⟩
theorem fresh_secs (w : World) : (w.alloc (.cells #[] 54)).ownsRow w.heap.size 54 4 (.slice (some ⟨w.heap.size, 0, none⟩) 0 0) 0 [] := World.ownsRow_lit w #[] 0 (Nat.le_refl _) (by decide) rfl
theorem RowAt.new (w : World) (cs : Array Value) (t : TypeId) : RowAt (w.alloc (.cells cs t)) w.heap.size t cs.toList := ⟨cs, heap_alloc_new w _, fun j u hu => by simpa using hu⟩
/-- A disk of the reference out of a row and a new block. -/
theorem RDiskIn.make {w w1 : World} {D : Dk} {g c : Nat} (hb : Below w.heap.size w w1) (hg : w.heap.size ≤ g) (hr : RowAt w1 g 54 (secsC D.s)) (hc : D.s.length ≤ c ∧ c ≤ maxLen) (hok : D.Ok) (hcl : ∀ x ∈ D.s, x.dirty = false → x.next = ByteArray.empty) :
    RDiskIn (w1.alloc (.cells #[.slice (some ⟨g, 0, none⟩) D.s.length c, .bool D.off, .int .i64 D.left] 57)) w.heap.size (w1.heap.size + 1) w1.heap.size g c D := by
  have hz := hb.size
  have hgl := hr.lt
  exact ⟨by omega, by omega, by simp, hc, RowAt.new w1 _ _, hr.of_block (heap_alloc_old _ _ hgl), hok, hcl⟩
set_option maxHeartbeats 1000000 in
set_option maxRecDepth 100000 in
theorem rclone_any (p : Value) (D : Dk) (w : World) (lo hi : Nat) (h : RDiskAt w lo hi p D) :
    Calls Try.prog 29 #[p] w fun e w' => ∃ p', e = .returned p' ∧ RDiskAt w' w.heap.size w'.heap.size p' D ∧ Below w.heap.size w w' := by
  obtain ⟨b, g, c, rfl, h⟩ := h
  have c0 := h.c0
  have c1 := h.c1
  have c2 := h.c2
  have hbl := h.top.lt
  have hn1 := h.ok.1.1
  have hn4 := h.ok.1.2.1
  have hsrc := h.row.rd (secsC_len D.s) h.cap.1 h.cap.2
  have hone := secsC_one D.s
  have hcap := h.cap
  have H := hidep h
  clear h
  unfold maxLen at hcap
  go_enter Try.func29, Try.ntmps29
  go_wp2
  have hxd : Below w.heap.size w (w.alloc (.cells #[] 54)).drew := ((Below.refl _ _).alloc (Nat.le_refl _) _).drew
  have hfr : (w.alloc (.cells #[] 54)).drew.ownsRow w.heap.size 54 4 (.slice (some ⟨w.heap.size, 0, none⟩) 0 0) 0 [] := fresh_secs w
  go_region_held3 (fun w' => w'.cell? ⟨b, 0, none⟩ = some (.slice (some ⟨g, 0, none⟩) D.s.length c) ∧ w'.cell? ⟨b, 1, none⟩ = some (.bool D.off) ∧ w'.cell? ⟨b, 2, none⟩ = some (.int .i64 D.left))
    (first
      | go_keep
      | exact ⟨hj0, hj1, hj2⟩)
    (first
      | (refine step_append_rd _ (by rfl) (.tmp 3) (.tmp 7) (by rfl) slSecs w.heap.size (.slice (some ⟨w.heap.size, 0, none⟩) 0 0) 0 [] (by rfl) (by exact hfr) _ _ _ _ (by rfl) (by exact hsrc.below hxd) hone (by unfold maxLen; omega) (by omega) (by simp) ?_; intro v2 w2 hown2 hgr2 hat hnl; clear hat hnl; simp only [Nat.zero_add, List.nil_append] at hown2; have hbf : Below w.heap.size w w2 := hxd.grown hgr2 (by simp) (fun g hg => by simp [Value.ownBlock] at hg; omega); have hj0 := (hbf.cell (p := ⟨b, 0, none⟩) hbl).trans c0; have hj1 := (hbf.cell (p := ⟨b, 1, none⟩) hbl).trans c1; have hj2 := (hbf.cell (p := ⟨b, 2, none⟩) hbl).trans c2; obtain ⟨g2, cc, rfl, hg2, hcc1, hcc2, hrow2⟩ := RowAt.of_own hown2 (by omega); dsimp only)
      | fail)
  clear hfr
  go_wp2
  go_ret
  have hm := RDiskIn.make hbf hg2 hrow2 ⟨hcc1, hcc2⟩ H.out.ok H.out.clean
  exact ⟨_, rfl, ⟨_, g2, cc, rfl, by rw [World.size_alloc]; exact hm⟩, hbf.alloc hbf.size _⟩
def textF : Nat → ByteArray → ByteArray
  | 0, s => s
  | f + 1, s => if 0 < s.size ∧ s.size < 64 then textF f (s ++ s.extract (s.size - 1) s.size) else s
def textZ (s : ByteArray) : ByteArray := textF 64 s
theorem textF_done (f : Nat) (s : ByteArray) (h : ¬ (0 < s.size ∧ s.size < 64)) : textF f s = s := by
  cases f with
  | zero => rfl
  | succ f => rw [textF, if_neg h]
theorem textF_le : ∀ (f : Nat) (s : ByteArray), s.size ≤ maxLen → (textF f s).size ≤ maxLen
  | 0, s, h => h
  | f + 1, s, h => by
    rw [textF]
    split
    · refine textF_le f _ ?_
      rw [ByteArray.size_append, extract_size]
      unfold maxLen
      omega
    · exact h
theorem textZ_le {s : ByteArray} (h : s.size ≤ maxLen) : (textZ s).size ≤ maxLen := textF_le 64 s h
set_option maxHeartbeats 1000000 in
theorem text_any (k i bit : Int) (s : ByteArray) (pv : Value) (w : World) (hs : s.size ≤ maxLen) :
    Calls Try.prog 24 #[.agg #[.int .i64 k, .int .i64 i, .int .i64 bit, .string s, pv]] w fun e w' => e = .returned (.string (textZ s)) ∧ Below w.heap.size w w' := by
  unfold maxLen at hs
  go_enter Try.func24, Try.ntmps24
  go_wp2
  go_loop [3] (fun v => ∃ (t : ByteArray) (f : Nat), v = .string t ∧ t.size ≤ 9223372036854775807 ∧ Hid (textF f t = textZ s) ∧ 64 ≤ t.size + f) (fun v => match v with | .string t => 64 - t.size | _ => 0)
  case atStart => exact ⟨s, 64, rfl, by omega, hidep rfl, by omega⟩
  case round =>
    obtain ⟨t, f, rfl, ht, HF, hf⟩ := hrel
    by_cases hc : 0 < t.size ∧ t.size < 64
    · obtain ⟨hc1, hc2⟩ := hc
      obtain ⟨f, rfl⟩ : ∃ q, f = q + 1 := ⟨f - 1, by omega⟩
      have HG : Hid (textF f (t ++ t.extract (t.size - 1) t.size) = textZ s) := hidep (by rw [← HF.out, textF, if_pos ⟨hc1, hc2⟩])
      have HZ : Hid ((t ++ t.extract (t.size - 1) t.size).size = t.size + 1) := hidep (by rw [ByteArray.size_append, extract_size]; omega)
      clear HF
      go_wp2
      go_round
      case rel => exact ⟨_, f, rfl, by rw [HZ.out]; omega, HG, by rw [HZ.out]; omega⟩
      case measure =>
        show 64 - (t ++ t.extract (t.size - 1) t.size).size < 64 - t.size
        rw [HZ.out]; omega
    · have e := textF_done f t hc
      have HE : Hid (t = textZ s) := hidep (by rw [← HF.out, e])
      clear e HF
      have h2 : t.size = 0 ∨ 64 ≤ t.size := by omega
      rcases h2 with h2 | h2
      · have HH := hidep h2
        have h3 : t.size ≤ 0 := Nat.le_of_eq h2
        clear h2
        go_wp2
        go_ret
        exact ⟨ret_val (congrArg Value.string HE.out), (Below.refl _ _).alloc (Nat.le_refl _) _⟩
      · go_wp2
        go_ret
        exact ⟨ret_val (congrArg Value.string HE.out), (Below.refl _ _).alloc (Nat.le_refl _) _⟩
end Go.Proofs.Ytmgogmjkoealoaa
