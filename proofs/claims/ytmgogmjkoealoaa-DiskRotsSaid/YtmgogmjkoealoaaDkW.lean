/- Contracts of the reference: the image, the pending and the worn sectors. -/
import Derived.Test.YtmgogmjkoealoaaDkV
namespace Go.Proofs.Ytmgogmjkoealoaa
open Go.RowKit Go.Lab Go.Disk
theorem strsC_one (l : List ByteArray) : ∀ u ∈ strsC l, u.oneCell' = true := by
  intro u hu
  obtain ⟨x, _, rfl⟩ := List.mem_map.1 hu
  rfl
set_option maxHeartbeats 1000000 in
theorem rimage_any (p : Value) (D : Dk) (w : World) (lo hi : Nat) (h : RDiskAt w lo hi p D) :
    Calls Try.prog 40 #[p] w fun e w' => ∃ v, e = .returned v ∧ w'.ownsRow w.heap.size 9 1 v D.s.length (strsC (imageZ D)) ∧ Below w.heap.size w w' := by
  obtain ⟨b, g, c, rfl, h⟩ := h
  have hn4 := h.ok.1.2.1
  have H := hidep h
  clear h
  obtain ⟨n, hn⟩ : ∃ n, D.s.length = n := ⟨_, rfl⟩
  have HN := hidep hn
  rw [hn] at hn4
  clear hn
  go_enter Try.func40, Try.ntmps40
  go_wp2
  go_loopw [3, 4] (fun v i wr => ∃ j : Nat, j ≤ n ∧ i = .int .i64 j ∧ wr.ownsRow w.heap.size 9 1 v j (strsC ((imageZ D).take j)) ∧ Hid (Below w.heap.size w wr)) (fun _ i _ => n - (RowKit.intOf i).toNat)
  case atStart => exact ⟨0, Nat.zero_le _, rfl, World.ownsRow_nil _ _ _ _, hidep (Below.refl _ _)⟩
  case round =>
    obtain ⟨j, hj, rfl, hown, HB⟩ := hrel
    have h1 : RDiskIn wr lo hi b g c D := H.out.keep (lo' := hi) (hi' := hi) (Turn.of_below HB.out) (.inl (Nat.le_refl _))
    have c0 := h1.c0
    rw [HN.out] at c0
    by_cases hlt : j < n
    · have hjl : j < D.s.length := by rw [HN.out]; exact hlt
      obtain ⟨d0, d1, d2, d3⟩ := h1.at hjl
      have hz := HB.out.size
      rw [atS_get hjl] at d0
      have HT : Hid ((imageZ D).take (j + 1) = (imageZ D).take j ++ [D.s[j].text]) := hidep (by
        rw [List.take_succ_eq_append_getElem (by simpa [imageZ] using hjl)]
        simp [imageZ])
      clear d1 d2 d3 h1
      generalize D.s[j].text = x at *
      clear hjl
      generalize (imageZ D).take j = L at *
      go_wp2_with (first
        | (at_builtin; refine wpList_append_rd _ rfl (.tmp 14) (.tmp 23) rfl slStrs w.heap.size _ _ _ rfl (hown.alloc _) _ _ _ _ rfl (Rd.fresh wr #[.string x] 9 1 1 rfl (by decide)) (by intro u hu; simp at hu; subst hu; rfl) (by unfold maxLen; omega) (by omega) (by simp; omega) ?_; intro v1 w1 hown1 hgr1 hat hnl; clear hat hnl)
        | fail)
      have hb1 : Below w.heap.size w w1 := ((HB.out.alloc HB.out.size _).grown hgr1 (by simp; omega) (fun g hg => (hown.lt g hg).1))
      have HB1 := hidep hb1
      clear hb1 hgr1
      go_roundw
      case rel => exact ⟨j + 1, by omega, by go_num, by rw [HT.out]; simpa [strsC] using hown1, HB1⟩
      case measure => simp [RowKit.intOf]; omega
    · clear h1
      go_wp2
      go_ret
      have hjn : j = n := by omega
      have e : (imageZ D).take j = imageZ D := List.take_of_length_le (by simp [imageZ, HN.out]; omega)
      rw [e] at hown
      exact ⟨_, rfl, by rw [HN.out, ← hjn]; exact hown, HB.out⟩
theorem pendZ_snoc : ∀ (S : List Sec) (o : Nat) (x : Sec), pendZ (S ++ [x]) o = pendZ S o ++ (if x.dirty = true then [((o + S.length : Nat) : Int)] else [])
  | [], o, x => by simp [pendZ]
  | y :: r, o, x => by
    rw [List.cons_append, pendZ, pendZ_snoc r (o + 1) x, pendZ]
    have e : o + 1 + r.length = o + (y :: r).length := by simp; omega
    rw [e]
    split <;> simp
theorem pendZ_take {S : List Sec} {j : Nat} (h : j < S.length) : pendZ (S.take (j + 1)) 0 = pendZ (S.take j) 0 ++ (if S[j].dirty = true then [(j : Int)] else []) := by
  rw [List.take_succ_eq_append_getElem h, pendZ_snoc]
  have e : 0 + (S.take j).length = j := by rw [List.length_take]; omega
  rw [e]
theorem wornZ_take {S : List Sec} {j : Nat} (h : j < S.length) : wornZ (S.take (j + 1)) 0 = wornZ (S.take j) 0 ++ (if S[j].worn = true then [(j : Int)] else []) := by
  rw [wornZ_flip, wornZ_flip, List.map_take, List.map_take, pendZ_take (by simpa using h)]
  simp [Disk.flip]
set_option maxHeartbeats 1000000 in
theorem rpending_any (p : Value) (D : Dk) (w : World) (lo hi : Nat) (h : RDiskAt w lo hi p D) :
    Calls Try.prog 42 #[p] w fun e w' => ∃ v, e = .returned v ∧ w'.ownsRow w.heap.size 3 1 v (pendZ D.s 0).length (intsC (pendZ D.s 0)) ∧ Below w.heap.size w w' := by
  obtain ⟨b, g, c, rfl, h⟩ := h
  have hn4 := h.ok.1.2.1
  have H := hidep h
  clear h
  obtain ⟨n, hn⟩ : ∃ n, D.s.length = n := ⟨_, rfl⟩
  have HN := hidep hn
  rw [hn] at hn4
  clear hn
  go_enter Try.func42, Try.ntmps42
  go_wp2
  go_loopw [3, 4] (fun v i wr => ∃ j : Nat, j ≤ n ∧ i = .int .i64 j ∧ wr.ownsRow w.heap.size 3 1 v (pendZ (D.s.take j) 0).length (intsC (pendZ (D.s.take j) 0)) ∧ Hid (Below w.heap.size w wr)) (fun _ i _ => n - (RowKit.intOf i).toNat)
  case atStart => exact ⟨0, Nat.zero_le _, rfl, World.ownsRow_nil _ _ _ _, hidep (Below.refl _ _)⟩
  case round =>
    obtain ⟨j, hj, rfl, hown, HB⟩ := hrel
    have h1 : RDiskIn wr lo hi b g c D := H.out.keep (lo' := hi) (hi' := hi) (Turn.of_below HB.out) (.inl (Nat.le_refl _))
    have c0 := h1.c0
    rw [HN.out] at c0
    by_cases hlt : j < n
    · have hjl : j < D.s.length := by rw [HN.out]; exact hlt
      obtain ⟨d0, d1, d2, d3⟩ := h1.at hjl
      have hz := HB.out.size
      rw [atS_get hjl] at d2
      have hpl := pendZ_le (D.s.take j) 0
      rw [List.length_take] at hpl
      have hpl2 : (pendZ (D.s.take j) 0).length ≤ j := by omega
      have HT := hidep (pendZ_take hjl)
      clear d0 d1 d3 h1 hpl
      cases hd : (D.s[j]).dirty with
      | true =>
        rw [hd] at d2
        have HT2 := hidep (HT.out.trans (by rw [hd]; rfl : _ = pendZ (D.s.take j) 0 ++ [(j : Int)]))
        clear HT hd hjl
        generalize pendZ (D.s.take j) 0 = L at *
        go_wp2_with (first
          | (at_builtin; refine wpList_append_rd _ rfl (.tmp 22) (.tmp 24) rfl slInts w.heap.size _ _ _ rfl (hown.alloc _) _ _ _ _ rfl (Rd.fresh wr #[.int .i64 j] 3 1 1 rfl (by decide)) (by intro u hu; simp at hu; subst hu; rfl) (by unfold maxLen; omega) (by omega) (by simp; omega) ?_; intro v1 w1 hown1 hgr1 hat hnl; clear hat hnl)
          | fail)
        have hb1 : Below w.heap.size w w1 := ((HB.out.alloc HB.out.size _).grown hgr1 (by simp; omega) (fun g hg => (hown.lt g hg).1))
        have HB1 := hidep hb1
        clear hb1 hgr1
        go_roundw
        case rel => exact ⟨j + 1, by omega, by go_num, by rw [HT2.out]; simpa [intsC] using hown1, HB1⟩
        case measure => simp [RowKit.intOf]; omega
      | false =>
        rw [hd] at d2
        have HT2 := hidep (HT.out.trans (by rw [hd]; simp : _ = pendZ (D.s.take j) 0))
        clear HT hd hjl
        go_wp2
        go_roundw
        case rel => exact ⟨j + 1, by omega, by go_num, by rw [HT2.out]; exact hown, HB⟩
        case measure => simp [RowKit.intOf]; omega
    · clear h1
      go_wp2
      go_ret
      have e : D.s.take j = D.s := List.take_of_length_le (by rw [HN.out]; omega)
      rw [e] at hown
      exact ⟨_, rfl, hown, HB.out⟩
set_option maxHeartbeats 1000000 in
theorem rworn_any (p : Value) (D : Dk) (w : World) (lo hi : Nat) (h : RDiskAt w lo hi p D) :
    Calls Try.prog 43 #[p] w fun e w' => ∃ v, e = .returned v ∧ w'.ownsRow w.heap.size 3 1 v (wornZ D.s 0).length (intsC (wornZ D.s 0)) ∧ Below w.heap.size w w' := by
  obtain ⟨b, g, c, rfl, h⟩ := h
  have hn4 := h.ok.1.2.1
  have H := hidep h
  clear h
  obtain ⟨n, hn⟩ : ∃ n, D.s.length = n := ⟨_, rfl⟩
  have HN := hidep hn
  rw [hn] at hn4
  clear hn
  go_enter Try.func43, Try.ntmps43
  go_wp2
  go_loopw [3, 4] (fun v i wr => ∃ j : Nat, j ≤ n ∧ i = .int .i64 j ∧ wr.ownsRow w.heap.size 3 1 v (wornZ (D.s.take j) 0).length (intsC (wornZ (D.s.take j) 0)) ∧ Hid (Below w.heap.size w wr)) (fun _ i _ => n - (RowKit.intOf i).toNat)
  case atStart => exact ⟨0, Nat.zero_le _, rfl, World.ownsRow_nil _ _ _ _, hidep (Below.refl _ _)⟩
  case round =>
    obtain ⟨j, hj, rfl, hown, HB⟩ := hrel
    have h1 : RDiskIn wr lo hi b g c D := H.out.keep (lo' := hi) (hi' := hi) (Turn.of_below HB.out) (.inl (Nat.le_refl _))
    have c0 := h1.c0
    rw [HN.out] at c0
    by_cases hlt : j < n
    · have hjl : j < D.s.length := by rw [HN.out]; exact hlt
      obtain ⟨d0, d1, d2, d3⟩ := h1.at hjl
      have hz := HB.out.size
      rw [atS_get hjl] at d3
      have hpl := wornZ_le (D.s.take j) 0
      rw [List.length_take] at hpl
      have hpl2 : (wornZ (D.s.take j) 0).length ≤ j := by omega
      have HT := hidep (wornZ_take hjl)
      clear d0 d1 d2 h1 hpl
      cases hd : (D.s[j]).worn with
      | true =>
        rw [hd] at d3
        have HT2 := hidep (HT.out.trans (by rw [hd]; rfl : _ = wornZ (D.s.take j) 0 ++ [(j : Int)]))
        clear HT hd hjl
        generalize wornZ (D.s.take j) 0 = L at *
        go_wp2_with (first
          | (at_builtin; refine wpList_append_rd _ rfl (.tmp 22) (.tmp 24) rfl slInts w.heap.size _ _ _ rfl (hown.alloc _) _ _ _ _ rfl (Rd.fresh wr #[.int .i64 j] 3 1 1 rfl (by decide)) (by intro u hu; simp at hu; subst hu; rfl) (by unfold maxLen; omega) (by omega) (by simp; omega) ?_; intro v1 w1 hown1 hgr1 hat hnl; clear hat hnl)
          | fail)
        have hb1 : Below w.heap.size w w1 := ((HB.out.alloc HB.out.size _).grown hgr1 (by simp; omega) (fun g hg => (hown.lt g hg).1))
        have HB1 := hidep hb1
        clear hb1 hgr1
        go_roundw
        case rel => exact ⟨j + 1, by omega, by go_num, by rw [HT2.out]; simpa [intsC] using hown1, HB1⟩
        case measure => simp [RowKit.intOf]; omega
      | false =>
        rw [hd] at d3
        have HT2 := hidep (HT.out.trans (by rw [hd]; simp : _ = wornZ (D.s.take j) 0))
        clear HT hd hjl
        go_wp2
        go_roundw
        case rel => exact ⟨j + 1, by omega, by go_num, by rw [HT2.out]; exact hown, HB⟩
        case measure => simp [RowKit.intOf]; omega
    · clear h1
      go_wp2
      go_ret
      have e : D.s.take j = D.s := List.take_of_length_le (by rw [HN.out]; omega)
      rw [e] at hown
      exact ⟨_, rfl, hown, HB.out⟩
end Go.Proofs.Ytmgogmjkoealoaa
