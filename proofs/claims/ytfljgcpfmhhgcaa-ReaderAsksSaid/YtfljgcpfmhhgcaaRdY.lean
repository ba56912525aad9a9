/- Reader: slices.Repeat of one number; what the code keeps as the least. -/
import Derived.Laws.CopyOwn
import Derived.Test.YtfljgcpfmhhgcaaRdX
namespace Go.Proofs.Ytfljgcpfmhhgcaa
open Go.RowKit Go.Lab
set_option maxHeartbeats 1000000 in
theorem mul64_any (n : Nat) (hn : n ≤ 8) (w : World) : Calls Try.prog 88 #[.int .u64 1, .int .u64 (n : Nat)] w fun e w' => e = .returned (.tuple #[.int .u64 0, .int .u64 (n : Nat)]) ∧ w = w' := by
  have h9 : n = 0 ∨ n = 1 ∨ n = 2 ∨ n = 3 ∨ n = 4 ∨ n = 5 ∨ n = 6 ∨ n = 7 ∨ n = 8 := by omega
  rcases h9 with rfl | rfl | rfl | rfl | rfl | rfl | rfl | rfl | rfl
  all_goals
    go_enter Try.func88, Try.ntmps88
    go_wp2
    go_ret2
    exact ⟨rfl, rfl⟩
set_option maxHeartbeats 1000000 in
theorem mul_any (n : Nat) (hn : n ≤ 8) (w : World) : Calls Try.prog 80 #[.int .u64 1, .int .u64 (n : Nat)] w fun e w' => e = .returned (.tuple #[.int .u64 0, .int .u64 (n : Nat)]) ∧ w = w' := by
  have H := hidep (fun w => mul64_any n hn w)
  go_enter Try.func80, Try.ntmps80
  go_wp2_with (first | (go_at_call 88; refine (H.out _).mono ?_; rintro e w1 ⟨rfl, rfl⟩) | fail)
  go_ret2
  exact ⟨rfl, rfl⟩
def takeZ (least c : Int) : Int := if least < 0 ∨ c < least then c else least
set_option maxHeartbeats 1000000 in
theorem take_any (b : Nat) (least c : Int) (w : World) (hb : Boxed w b 3 (.int .i64 least)) :
    Calls Try.prog 60 #[.int .i64 c, .pointer (some ⟨b, 0, none⟩)] w fun e w' => (∃ v, e = .returned v) ∧ Boxed w' b 3 (.int .i64 (takeZ least c)) ∧ w.grownBy w' (some b) := by
  have hc := hb.cell
  have hf := hb.frozen
  by_cases h1 : least < 0
  · have HZ : Hid (takeZ least c = c) := hidep (if_pos (.inl h1))
    go_enter Try.func60, Try.ntmps60
    go_wp2
    go_end0
    exact ⟨⟨_, rfl⟩, by rw [HZ.out]; exact hb.set _, grownBy_setCell' _ _ _⟩
  · have h1' : 0 ≤ least := by omega
    by_cases h2 : c < least
    · have HZ : Hid (takeZ least c = c) := hidep (if_pos (.inr h2))
      go_enter Try.func60, Try.ntmps60
      go_wp2
      go_end0
      exact ⟨⟨_, rfl⟩, by rw [HZ.out]; exact hb.set _, grownBy_setCell' _ _ _⟩
    · have HZ : Hid (takeZ least c = least) := hidep (if_neg (by omega))
      have h2' : least ≤ c := by omega
      go_enter Try.func60, Try.ntmps60
      go_wp2
      go_end0
      exact ⟨⟨_, rfl⟩, by rw [HZ.out]; exact hb, rfl, rfl, rfl, Nat.le_refl _, fun _ _ _ => rfl⟩
def negs (n : Nat) : List Value := List.replicate n (.int .i64 (-1))
def zers (n : Nat) : List Value := List.replicate n (.int .i64 0)
theorem splice_negs (n k m : Nat) (h : k + m ≤ n) : splice (negs k ++ zers (n - k)) k (negs m) = negs (k + m) ++ zers (n - (k + m)) := by
  unfold splice negs zers
  rw [List.take_append_of_le_length (by simp), List.take_of_length_le (by simp), List.drop_append, List.drop_of_length_le (by simp)]
  simp only [List.length_replicate, List.nil_append, List.drop_replicate, ← List.append_assoc, List.replicate_append_replicate]
  congr 2
  omega
theorem slIntsR : SlT Try.prog 22 3 (.int .i64 0) 1 8 := ⟨by kernel_rfl, by kernel_rfl, rfl, by decide⟩
theorem hszInt : (Try.prog.info? 3).map (·.size) = some 1 := by kernel_rfl
theorem negs_cell {w : World} {g n k : Nat} (h : w.heap[g]? = some (.cells (negs k ++ zers n).toArray 3 (0, 0))) {j : Nat} {v : Value} {m : Nat} (hm : m ≤ k) (hv : (negs m)[j]? = some v) : w.cell? ((⟨g, 0, none⟩ : Addr).add j) = some v := by
  have : (⟨g, 0, none⟩ : Addr).add j = ⟨g, j, none⟩ := by unfold Addr.add; split <;> simp_all
  rw [this]
  have h1 : j < m ∧ (Value.int .i64 (-1)) = v := by
    unfold negs at hv
    rw [List.getElem?_replicate] at hv
    split at hv
    · exact ⟨by assumption, Option.some.inj hv⟩
    · cases hv
  obtain ⟨h1, rfl⟩ := h1
  have hjk : j < (negs k).length := by unfold negs; rw [List.length_replicate]; omega
  have : (negs k ++ zers n)[j]? = some (.int .i64 (-1)) := by
    rw [List.getElem?_append_left hjk]
    unfold negs
    rw [List.getElem?_replicate, if_pos (by omega)]
  simp only [World.cell?, h]
  simpa using this
theorem mad0 (n : Nat) : madeCells #[.int .i64 0] n = (negs 0 ++ zers n).toArray := by
  apply Array.ext'
  apply List.ext_getElem
  · simp [negs, zers, madeCells]
  · intro i h1 h2
    simp [negs, zers, madeCells, Nat.mod_one]
set_option maxRecDepth 100000 in
set_option maxHeartbeats 400000 in
theorem repeat_any (b n : Nat) (hn : n ≤ 8) (w : World) (hb : w.heap[b]? = some (.cells #[.int .i64 (-1)] 3)) :
    Calls Try.prog 59 #[.slice (some ⟨b, 0, none⟩) 1 1, .int .i64 (n : Nat)] w fun e w' => ∃ g, e = .returned (.slice (some ⟨g, 0, none⟩) n n) ∧ w.heap.size ≤ g ∧ w'.heap[g]? = some (.cells (negs n).toArray 3 (0, 0)) ∧ Below w.heap.size w w' := by
  have H := hidep (fun w => mul_any n hn w)
  have hmk := fun W => run_make_row' (P := Try.prog) 22 3 (.int .i64 0) 8 Try.underlying22 slIntsR.2.1 rfl .i64 .i64 n (by omega) (by omega) W
  simp only [mad0] at hmk
  have HG0 := hidep (heap_alloc_new w (.cells (negs 0 ++ zers n).toArray 3))
  have HB0 := hidep (show Below w.heap.size w (w.alloc (.cells (negs 0 ++ zers n).toArray 3)) from (Below.refl _ _).alloc (Nat.le_refl _) _)
  have HSB := hidep (show ∀ j v, (negs (min 1 n))[j]? = some v → (w.alloc (.cells (negs 0 ++ zers n).toArray 3)).cell? ((⟨b, 0, none⟩ : Addr).add j) = some v from fun j v hj => by
    obtain ⟨h1, rfl⟩ := List.getElem?_eq_some_iff.1 hj
    have h0 : j = 0 := by simp [negs] at h1; omega
    subst h0
    have := (Below.heap_alloc w (.cells (negs 0 ++ zers n).toArray 3) b (lt_of_block hb)).trans hb
    simpa [Addr.add, negs] using box1_cell this)
  clear hb
  go_enter Try.func59, Try.ntmps59
  go_wp2_with (first
    | (go_at_call 80; refine (H.out _).mono ?_; rintro e w1 ⟨rfl, rfl⟩)
    | (refine wpList_copy_splice rfl (.tmp 31) (.tmp 32) 22 22 rfl 3 Try.underlying22 hszInt _ _ _ _ _ _ rfl rfl w.heap.size 0 (negs 0 ++ zers n) 3 HG0.out (negs (min 1 n)) (by simp [negs, Nat.min_def]) (fun _ => ⟨rfl, _, rfl, HSB.out⟩) (by simp [negs, zers]; omega) (by intro v hv; simp [negs] at hv; rw [hv.2]; rfl) w.heap.size w HB0.out (Nat.le_refl _) ?_; intro w2 HG2 HB2)
    | fail)
  have hl1 : (negs (min 1 n)).length = min 1 n := by simp [negs]
  rw [hl1]
  clear hl1 HG0 HB0 HSB H hmk
  have HG3 := hidep (HG2.out.trans (by have := splice_negs n 0 (min 1 n) (by omega); simp only [Nat.zero_add, Nat.sub_zero] at this; rw [this]))
  clear HG2
  go_loopw [8] (fun i wr => ∃ k : Nat, k ≤ n ∧ i = .int .i64 k ∧ (0 < k ∨ n = 0) ∧ Hid (wr.heap[w.heap.size]? = some (.cells (negs k ++ zers (n - k)).toArray 3 (0, 0))) ∧ Below w.heap.size w wr) (fun i _ => n - (intOf i).toNat)
  case atStart => exact ⟨min 1 n, by omega, rfl, by omega, HG3, HB2⟩
  case round =>
    obtain ⟨k, hk, rfl, hk0, HG, HB⟩ := hrel
    by_cases hlt : k < n
    · have hkp : 0 < k := by omega
      have hkn : ¬ n = k := by omega
      have hnk : 0 < n - k := by omega
      have HS := hidep (show ∀ j v, (negs (min k (n - k)))[j]? = some v → wr.cell? ((⟨w.heap.size, 0, none⟩ : Addr).add j) = some v from fun j v hj => negs_cell HG.out (by omega) hj)
      go_upto_region 9 with (fail)
      go_region_held3 (fun w' => True)
        (exact trivial)
        (first
          | (refine step_copy_splice (by rfl) (.tmp 41) (.tmp 44) 22 22 (by rfl) 3 Try.underlying22 hszInt (some ⟨w.heap.size, k, none⟩) (some ⟨w.heap.size, 0, none⟩) (n - k) (n - k) k n (by rfl) (by rfl) w.heap.size k (negs k ++ zers (n - k)) 3 (by exact HG.out) (negs (min k (n - k))) (by simp [negs, Nat.min_def]) (fun _ => ⟨rfl, _, rfl, HS.out⟩) (by simp [negs, zers]; omega) (by intro v hv; simp [negs] at hv; rw [hv.2]; rfl) w.heap.size w (by exact below_drewN HB _) (Nat.le_refl _) ?_; intro w4 HG4 HB4; rw [show (negs (min k (n - k))).length = min k (n - k) by simp [negs]]; dsimp only)
          | fail)
      have HG5 := hidep (HG4.out.trans (by rw [splice_negs n k (min k (n - k)) (by omega)]))
      clear HG4 HG HS
      generalize hm : min k (n - k) = m at *
      have hm1 : 0 < m := by omega
      have hm2 : k + m ≤ n := by omega
      have hwm : IntKind.i64.wrap ((k : Int) + (m : Int)) = (k : Int) + (m : Int) := IntWalk.i64_in _ (by omega)
      clear hm
      go_wp2
      go_roundw
      case rel => exact ⟨k + m, hm2, by go_num, .inl (by omega), HG5, HB4⟩
      case measure => simp [intOf]; omega
    · have hkl : k = n := by omega
      subst hkl
      go_wp2
      go_ret
      exact ⟨w.heap.size, rfl, Nat.le_refl _, by have := HG.out; simpa [zers] using this, HB⟩
end Go.Proofs.Ytfljgcpfmhhgcaa
