/- Contracts of the laws' helpers: same, start. -/
import Derived.Test.YtmgogmjkoealoaaDkM
namespace Go.Proofs.Ytmgogmjkoealoaa
open Go.RowKit Go.Lab Go.Disk
theorem own_rd {w : World} {base : Nat} {e : TypeId} {k n : Nat} {v : Value} {xs : List Value} (h : w.ownsRow base e k v n xs) : Rd w (fun _ => True) k v n xs := (Rd.of_own h).mono (fun _ _ => trivial)
theorem strs_own {w : World} {base : Nat} {v : Value} {D : Dk} (h : w.ownsRow base 9 1 v D.s.length (strsC (imageZ D))) : StrsAt w v (imageZ D) := by
  unfold StrsAt
  rw [imageZ_len]
  exact own_rd h
set_option maxHeartbeats 2000000 in
set_option maxRecDepth 100000 in
theorem same_any (p q : Value) (D : Dk) (w : World) (lo hi lo2 hi2 : Nat) (h : DiskAt w lo hi p D) (h2 : RDiskAt w lo2 hi2 q D) :
    Calls Try.prog 13 #[p, q] w fun e w' => e = .returned (.bool true) ∧ Below w.heap.size w w' := by
  have HD := hidep (fun X (hX : Below w.heap.size w X) => h.below hX)
  have HR := hidep (fun X (hX : Below w.heap.size w X) => h2.below hX)
  have hok := hidep h.ok
  clear h h2
  have H1 : Hid (∀ X, Below w.heap.size w X → Calls Try.prog 15 #[p] X fun e w' => ∃ v, e = .returned v ∧ StrsAt w' v (imageZ D) ∧ Below X.heap.size X w') := hidep (fun X hX => (image_any p D X lo hi (HD.out X hX)).mono (fun e w' ⟨g, he, _, hr, hb⟩ => ⟨_, he, image_strs hr hok.out, hb⟩))
  have H2 : Hid (∀ X, Below w.heap.size w X → Calls Try.prog 40 #[q] X fun e w' => ∃ v, e = .returned v ∧ StrsAt w' v (imageZ D) ∧ Below X.heap.size X w') := hidep (fun X hX => (rimage_any q D X lo2 hi2 (HR.out X hX)).mono (fun e w' ⟨v, he, ho, hb⟩ => ⟨v, he, strs_own ho, hb⟩))
  have H3 : Hid (∀ X, Below w.heap.size w X → Calls Try.prog 22 #[p] X fun e w' => ∃ v, e = .returned v ∧ NumsAt w' v (pendZ D.s 0) ∧ Below X.heap.size X w') := hidep (fun X hX => (pending_any p D X lo hi (HD.out X hX)).mono (fun e w' ⟨v, he, ho, hb⟩ => ⟨v, he, own_rd ho, hb⟩))
  have H4 : Hid (∀ X, Below w.heap.size w X → Calls Try.prog 42 #[q] X fun e w' => ∃ v, e = .returned v ∧ NumsAt w' v (pendZ D.s 0) ∧ Below X.heap.size X w') := hidep (fun X hX => (rpending_any q D X lo2 hi2 (HR.out X hX)).mono (fun e w' ⟨v, he, ho, hb⟩ => ⟨v, he, own_rd ho, hb⟩))
  have H5 : Hid (∀ X, Below w.heap.size w X → Calls Try.prog 23 #[p] X fun e w' => ∃ v, e = .returned v ∧ NumsAt w' v (wornZ D.s 0) ∧ Below X.heap.size X w') := hidep (fun X hX => (worn_any p D X lo hi (HD.out X hX)).mono (fun e w' ⟨v, he, ho, hb⟩ => ⟨v, he, own_rd ho, hb⟩))
  have H6 : Hid (∀ X, Below w.heap.size w X → Calls Try.prog 43 #[q] X fun e w' => ∃ v, e = .returned v ∧ NumsAt w' v (wornZ D.s 0) ∧ Below X.heap.size X w') := hidep (fun X hX => (rworn_any q D X lo2 hi2 (HR.out X hX)).mono (fun e w' ⟨v, he, ho, hb⟩ => ⟨v, he, own_rd ho, hb⟩))
  have H7 : Hid (∀ X, Below w.heap.size w X → Calls Try.prog 31 #[p] X fun e w' => e = .returned (.int .i64 D.s.length) ∧ X = w') := hidep (fun X hX => len_any p D X lo hi (HD.out X hX))
  have H8 : Hid (∀ X, Below w.heap.size w X → Calls Try.prog 44 #[q] X fun e w' => e = .returned (.int .i64 D.s.length) ∧ X = w') := hidep (fun X hX => rlen_any q D X lo2 hi2 (HR.out X hX))
  have H9 : Hid (∀ X, Below w.heap.size w X → Calls Try.prog 27 #[p] X fun e w' => e = .returned (.bool (!D.off)) ∧ X = w') := hidep (fun X hX => up_any p D X lo hi (HD.out X hX))
  have H10 : Hid (∀ X, Below w.heap.size w X → Calls Try.prog 45 #[q] X fun e w' => e = .returned (.bool (!D.off)) ∧ X = w') := hidep (fun X hX => rup_any q D X lo2 hi2 (HR.out X hX))
  have HST : Hid (∀ X u v, StrsAt X u (imageZ D) → StrsAt X v (imageZ D) → Calls Try.prog 21 #[u, v] X fun e w' => e = .returned (.bool true) ∧ Below X.heap.size X w') := hidep (fun X u v hu hv => (sameTexts_any u v _ _ X hu hv).mono (fun e w' ⟨he, n, hn⟩ => ⟨by rw [he]; simp, by rw [hn]; exact below_drewN (Below.refl _ _) n⟩))
  have HSI : Hid (∀ X u v L, NumsAt X u L → NumsAt X v L → Calls Try.prog 41 #[u, v] X fun e w' => e = .returned (.bool true) ∧ Below X.heap.size X w') := hidep (fun X u v L hu hv => (sameInts_any u v _ _ X hu hv).mono (fun e w' ⟨he, n, hn⟩ => ⟨by rw [he]; simp, by rw [hn]; exact below_drewN (Below.refl _ _) n⟩))
  clear HD HR hok
  have hb : (D.off == D.off) = true := by simp
  generalize (!D.off) = up at *
  generalize D.s.length = n at *
  clear hb
  have hX := Below.refl w.heap.size w
  go_enter Try.func13, Try.ntmps13
  go_wp2_with (first
    | (go_at_call 15; refine (H1.out _ hX).mono ?_; rintro e w1 ⟨v1, rfl, hv1, hb⟩; have hX := hX.trans (hb.mono hX.size))
    | (go_at_call 40; refine (H2.out _ hX).mono ?_; rintro e w2 ⟨v2, rfl, hv2, hb⟩; have hv1 := hv1.below hb; have hX := hX.trans (hb.mono hX.size))
    | (go_at_call 21; refine (HST.out _ _ _ hv1 hv2).mono ?_; rintro e w3 ⟨rfl, hb⟩; have hX := hX.trans (hb.mono hX.size))
    | (go_at_call 22; refine (H3.out _ hX).mono ?_; rintro e w1 ⟨v3, rfl, hv3, hb⟩; have hX := hX.trans (hb.mono hX.size))
    | (go_at_call 42; refine (H4.out _ hX).mono ?_; rintro e w2 ⟨v4, rfl, hv4, hb⟩; have hv3 := hv3.below hb; have hX := hX.trans (hb.mono hX.size))
    | (go_at_call 23; refine (H5.out _ hX).mono ?_; rintro e w1 ⟨v5, rfl, hv5, hb⟩; have hX := hX.trans (hb.mono hX.size))
    | (go_at_call 43; refine (H6.out _ hX).mono ?_; rintro e w2 ⟨v6, rfl, hv6, hb⟩; have hv5 := hv5.below hb; have hX := hX.trans (hb.mono hX.size))
    | (go_at_call 41; (with_reducible refine (HSI.out _ _ _ _ hv3 hv4).mono ?_); rintro e w3 ⟨rfl, hb⟩; have hX := hX.trans (hb.mono hX.size))
    | (go_at_call 41; (with_reducible refine (HSI.out _ _ _ _ hv5 hv6).mono ?_); rintro e w3 ⟨rfl, hb⟩; have hX := hX.trans (hb.mono hX.size))
    | (go_at_call 31; refine (H7.out _ hX).mono ?_; rintro e w3 ⟨rfl, rfl⟩)
    | (go_at_call 44; refine (H8.out _ hX).mono ?_; rintro e w3 ⟨rfl, rfl⟩)
    | (go_at_call 27; refine (H9.out _ hX).mono ?_; rintro e w3 ⟨rfl, rfl⟩)
    | (go_at_call 45; refine (H10.out _ hX).mono ?_; rintro e w3 ⟨rfl, rfl⟩)
    | fail)
  all_goals go_ret
  all_goals exact ⟨ret_val (by simp), hX⟩
set_option maxHeartbeats 1000000 in
theorem start_bad (n : Int) (w : World) (h : n < 1 ∨ 64 < n) : Calls Try.prog 10 #[.int .i64 n] w fun e w' => e = .returned (.tuple #[.pointer none, .pointer none, .bool false]) ∧ w = w' := by
  rcases h with h | h
  · go_enter Try.func10, Try.ntmps10
    go_wp2
    go_ret3
    exact ⟨rfl, rfl⟩
  · have h1 : 1 ≤ n := by omega
    go_enter Try.func10, Try.ntmps10
    go_wp2
    go_ret3
    exact ⟨rfl, rfl⟩
theorem DiskAt.ptr {w : World} {lo hi : Nat} {p : Value} {D : Dk} (h : DiskAt w lo hi p D) : ∃ b, p = .pointer (some ⟨b, 0, none⟩) := by
  obtain ⟨b, g, mb, wb, c, l, P, W, hp, _⟩ := h
  exact ⟨b, hp⟩
theorem RDiskAt.ptr {w : World} {lo hi : Nat} {p : Value} {D : Dk} (h : RDiskAt w lo hi p D) : ∃ b, p = .pointer (some ⟨b, 0, none⟩) := by
  obtain ⟨b, g, c, hp, _⟩ := h
  exact ⟨b, hp⟩
set_option maxHeartbeats 1000000 in
theorem start_any (n : Nat) (w : World) (h1 : 1 ≤ n) (h2 : n ≤ 64) : Calls Try.prog 10 #[.int .i64 n] w fun e w' => ∃ p q m, e = .returned (.tuple #[p, q, .bool true]) ∧ DiskAt w' w.heap.size m p (newD n) ∧ RDiskAt w' m w'.heap.size q (newD n) ∧ Below w.heap.size w w' := by
  have HN := hidep (new_any n w h1 (by omega))
  have HR := hidep (fun X => rnew_any n X h1 (by omega))
  have hI1 : 1 ≤ (n : Int) := by omega
  have hI2 : (n : Int) ≤ 64 := by omega
  go_enter Try.func10, Try.ntmps10
  go_wp2_with (first
    | (go_at_call 14; refine HN.out.mono ?_; rintro e w1 ⟨p, rfl, hD, hb1⟩; obtain ⟨b, rfl⟩ := hD.ptr)
    | (go_at_call 32; refine (HR.out _).mono ?_; rintro e w2 ⟨q, rfl, hR, hb2⟩; obtain ⟨b2, rfl⟩ := hR.ptr)
    | fail)
  go_ret3
  exact ⟨_, _, w1.heap.size, rfl, hD.below hb2, hR, hb1.trans (hb2.mono hb1.size)⟩
end Go.Proofs.Ytmgogmjkoealoaa
