/- Contracts of the reference of package merge: equal edits, equal lists of edits and of pairs, a list has an edit. -/
import Derived.Test.YthdafajhohdkoaaMgF
import Derived.Test.YthdafajhohdkoaaPairA
namespace Go.Proofs.Ythdafajhohdkoaa
open Go.RowKit Go.Lab
set_option maxHeartbeats 1000000 in
theorem same34_any (p d p' d' : Int) (i i' : List Sym) (u u' : Value) (w : World) (h : SymsAt w u i) (h' : SymsAt w u' i') :
    Calls Try.prog 36 #[.agg #[.int .i64 p, .int .i64 d, u], .agg #[.int .i64 p', .int .i64 d', u']] w fun e w' => e = .returned (.bool (decide ((⟨p, d, i⟩ : Edit) = ⟨p', d', i'⟩))) ∧ Below w.heap.size w w' := by
  have HE : Hid (∀ b : Bool, (b = true ↔ (p = p' ∧ d = d' ∧ i = i')) → b = decide ((⟨p, d, i⟩ : Edit) = ⟨p', d', i'⟩)) := hidep (fun b hb => edit_eq b hb)
  obtain ⟨a, c, rfl, _, _⟩ := h.form
  obtain ⟨a', c', rfl, _, _⟩ := h'.form
  have HQ := hidep (fun W (hb : Below w.heap.size w W) => sameSyms_any _ _ i i' W (h.below hb) (h'.below hb))
  clear h h'
  have HB : Hid (∀ o o', Below w.heap.size w ((w.alloc o).alloc o')) := hidep (fun o o' => ((Below.refl _ _).alloc (Nat.le_refl _) o).alloc (by simp) o')
  by_cases hp : p = p'
  · by_cases hd : d = d'
    · have hpb : (p == p') = true := by simpa using hp
      have hdb : (d == d') = true := by simpa using hd
      have HP := hidep hp
      have HD := hidep hd
      clear hp hd
      go_enter Try.func36, Try.ntmps36
      go_wp2_with (go_at_call 20; refine (HQ.out _ (HB.out _ _)).mono ?_; rintro e w1 ⟨rfl, n1, rfl⟩)
      go_ret
      exact ⟨ret_val (congrArg Value.bool (HE.out _ (by simp [HP.out, HD.out]))), below_drewN (HB.out _ _) _⟩
    · have hpb : (p == p') = true := by simpa using hp
      have hdb : (d == d') = false := by simpa using hd
      have HD := hidep hd
      clear hp hd
      go_enter Try.func36, Try.ntmps36
      go_wp2
      go_ret
      exact ⟨ret_val (congrArg Value.bool (HE.out _ (by simp [HD.out]))), HB.out _ _⟩
  · have hpb : (p == p') = false := by simpa using hp
    have HP := hidep hp
    clear hp
    go_enter Try.func36, Try.ntmps36
    go_wp2
    go_ret
    exact ⟨ret_val (congrArg Value.bool (HE.out _ (by simp [HP.out]))), HB.out _ _⟩
theorem edits_get {w : World} {a : Option Addr} {c : Nat} {l : List Edit} (h : EditsAt w (.slice a l.length c) l) {k : Nat} (hk : k < l.length) :
    ∃ b off u n c', a = some ⟨b, off, none⟩ ∧ b < w.heap.size ∧ w.cell? ⟨b, off + k * 3, none⟩ = some (.int .i64 l[k].pos) ∧ w.cell? ⟨b, off + k * 3 + 1, none⟩ = some (.int .i64 l[k].del) ∧
      w.cell? ⟨b, off + k * 3 + 2, none⟩ = some (.slice u n c') ∧ SymsAt w (.slice u n c') l[k].ins := by
  obtain ⟨b, off, u, h1, h2, h3, h4, h5, h6⟩ := h.at hk
  obtain ⟨a', c', rfl, _, _⟩ := h6.form
  exact ⟨b, off, a', _, c', h1, h2, h3, h4, h5, h6⟩
set_option maxHeartbeats 2000000 in
theorem sameAll_any (v u : Value) (l m : List Edit) (w : World) (h : EditsAt w v l) (h' : EditsAt w u m) :
    Calls Try.prog 31 #[v, u] w fun e w' => e = .returned (.bool (decide (l = m))) ∧ Below w.heap.size w w' := by
  obtain ⟨a, cap, rfl, h2, h3⟩ := h.form
  obtain ⟨a', cap', rfl, h2', h3'⟩ := h'.form
  unfold maxLen at h3 h3'
  by_cases hne : l.length = m.length
  · have HL := hidep hne
    have HB : Hid ((((l.length : Int)) != (m.length : Int)) = false) := hidep (by simp [hne])
    clear hne
    have hb := HB.out
    go_enter Try.func31, Try.ntmps31
    go_wp2
    clear hb
    go_loopw [5] (fun i wr => ∃ k : Nat, k ≤ l.length ∧ i = .int .i64 k ∧ Hid (l.take k = m.take k) ∧ Below w.heap.size w wr) (fun i _ => l.length - (intOf i).toNat)
    case atStart => exact ⟨0, Nat.zero_le _, rfl, hidep rfl, Below.refl _ _⟩
    case round =>
      obtain ⟨k, hk, rfl, he, hbw⟩ := hrel
      by_cases hlt : k < l.length
      · have hlt' : k < m.length := by have := HL.out; omega
        obtain ⟨b, off, u1, n1, c1, rfl, hb, hc0, hc1, hc2, hs⟩ := edits_get (h.below hbw) hlt
        obtain ⟨b', off', u2, n2, c2, rfl, hb', hd0, hd1, hd2, hs'⟩ := edits_get (h'.below hbw) hlt'
        have HB : Hid (∀ x y, l[k] = x → m[k] = y → (x = y → l.take (k + 1) = m.take (k + 1)) ∧ (x ≠ y → l ≠ m)) := hidep (by
          rintro x y rfl rfl
          exact ⟨eq_take_succ hlt hlt' he.out, fun hxy e => hxy (by subst e; rfl)⟩)
        have HB' := hidep (HB.out _ _ rfl rfl)
        clear h h' HB
        generalize l[k] = x at *
        generalize m[k] = y at *
        obtain ⟨p, d, ins⟩ := x
        obtain ⟨p', d', ins'⟩ := y
        simp only at hc0 hc1 hd0 hd1 hs hs' HB'
        have HS := hidep (fun X (hX : Below wr.heap.size wr X) => same34_any p d p' d' ins ins' _ _ X (hs.below hX) (hs'.below hX))
        have hI : 0 ≤ (k : Int) := by omega
        have hI1 : (k : Int) < (l.length : Int) := by omega
        have hI2 : (k : Int) < (m.length : Int) := by omega
        have HD := hidep (Below.refl wr.heap.size wr).drew
        clear hs hs' he
        by_cases hxy : (⟨p, d, ins⟩ : Edit) = ⟨p', d', ins'⟩
        · have HXY := hidep (HB'.out.1 hxy)
          have hdt : decide ((⟨p, d, ins⟩ : Edit) = ⟨p', d', ins'⟩) = true := decide_eq_true hxy
          rw [hdt] at HS
          clear hxy hdt
          go_upto_region 6 with (fail)
          go_region_held3 (fun w' => w'.cell? ⟨b, off + k * 3, none⟩ = some (.int .i64 p) ∧ w'.cell? ⟨b, off + k * 3 + 1, none⟩ = some (.int .i64 d) ∧ w'.cell? ⟨b, off + k * 3 + 2, none⟩ = some (.slice u1 n1 c1) ∧ w'.cell? ⟨b', off' + k * 3, none⟩ = some (.int .i64 p') ∧ w'.cell? ⟨b', off' + k * 3 + 1, none⟩ = some (.int .i64 d') ∧ w'.cell? ⟨b', off' + k * 3 + 2, none⟩ = some (.slice u2 n2 c2))
            (first | exact ⟨hc0, hc1, hc2, hd0, hd1, hd2⟩ | exact hall | go_keep)
            (first
              | (go_at_call 36; refine (HS.out _ (by exact HD.out)).mono ?_; rintro e w1 ⟨rfl, hb1⟩; have hall := (show w1.cell? ⟨b, off + k * 3, none⟩ = some (.int .i64 p) ∧ w1.cell? ⟨b, off + k * 3 + 1, none⟩ = some (.int .i64 d) ∧ w1.cell? ⟨b, off + k * 3 + 2, none⟩ = some (.slice u1 n1 c1) ∧ w1.cell? ⟨b', off' + k * 3, none⟩ = some (.int .i64 p') ∧ w1.cell? ⟨b', off' + k * 3 + 1, none⟩ = some (.int .i64 d') ∧ w1.cell? ⟨b', off' + k * 3 + 2, none⟩ = some (.slice u2 n2 c2) from ⟨(hb1.cell (p := ⟨b, off + k * 3, none⟩) hb).trans hc0, (hb1.cell (p := ⟨b, off + k * 3 + 1, none⟩) hb).trans hc1, (hb1.cell (p := ⟨b, off + k * 3 + 2, none⟩) hb).trans hc2, (hb1.cell (p := ⟨b', off' + k * 3, none⟩) hb').trans hd0, (hb1.cell (p := ⟨b', off' + k * 3 + 1, none⟩) hb').trans hd1, (hb1.cell (p := ⟨b', off' + k * 3 + 2, none⟩) hb').trans hd2⟩); dsimp only)
              | fail)
          all_goals
            go_wp2
            go_roundw
            case rel => exact ⟨k + 1, by omega, by go_num, hidep HXY.out, hbw.trans ((HD.out.trans hb1).mono hbw.size)⟩
            case measure => simp [intOf]; omega
        · have HXY := hidep (HB'.out.2 hxy)
          have hdt : decide ((⟨p, d, ins⟩ : Edit) = ⟨p', d', ins'⟩) = false := decide_eq_false hxy
          rw [hdt] at HS
          clear hxy hdt
          go_upto_region 6 with (fail)
          go_region_held3 (fun w' => w'.cell? ⟨b, off + k * 3, none⟩ = some (.int .i64 p) ∧ w'.cell? ⟨b, off + k * 3 + 1, none⟩ = some (.int .i64 d) ∧ w'.cell? ⟨b, off + k * 3 + 2, none⟩ = some (.slice u1 n1 c1) ∧ w'.cell? ⟨b', off' + k * 3, none⟩ = some (.int .i64 p') ∧ w'.cell? ⟨b', off' + k * 3 + 1, none⟩ = some (.int .i64 d') ∧ w'.cell? ⟨b', off' + k * 3 + 2, none⟩ = some (.slice u2 n2 c2))
            (first | exact ⟨hc0, hc1, hc2, hd0, hd1, hd2⟩ | exact hall | go_keep)
            (first
              | (go_at_call 36; refine (HS.out _ (by exact HD.out)).mono ?_; rintro e w1 ⟨rfl, hb1⟩; have hall := (show w1.cell? ⟨b, off + k * 3, none⟩ = some (.int .i64 p) ∧ w1.cell? ⟨b, off + k * 3 + 1, none⟩ = some (.int .i64 d) ∧ w1.cell? ⟨b, off + k * 3 + 2, none⟩ = some (.slice u1 n1 c1) ∧ w1.cell? ⟨b', off' + k * 3, none⟩ = some (.int .i64 p') ∧ w1.cell? ⟨b', off' + k * 3 + 1, none⟩ = some (.int .i64 d') ∧ w1.cell? ⟨b', off' + k * 3 + 2, none⟩ = some (.slice u2 n2 c2) from ⟨(hb1.cell (p := ⟨b, off + k * 3, none⟩) hb).trans hc0, (hb1.cell (p := ⟨b, off + k * 3 + 1, none⟩) hb).trans hc1, (hb1.cell (p := ⟨b, off + k * 3 + 2, none⟩) hb).trans hc2, (hb1.cell (p := ⟨b', off' + k * 3, none⟩) hb').trans hd0, (hb1.cell (p := ⟨b', off' + k * 3 + 1, none⟩) hb').trans hd1, (hb1.cell (p := ⟨b', off' + k * 3 + 2, none⟩) hb').trans hd2⟩); dsimp only)
              | fail)
          all_goals
            go_wp2
            go_ret
            exact ⟨ret_val (congrArg _ (decide_eq_false HXY.out).symm), hbw.trans ((HD.out.trans hb1).mono hbw.size)⟩
      · go_wp2
        have hkl : k = l.length := by omega
        subst hkl
        have hlm : l = m := by
          have := he.out
          rw [List.take_length, HL.out, List.take_length] at this
          exact this
        go_ret
        exact ⟨ret_val (congrArg _ (decide_eq_true hlm).symm), hbw⟩
  · have HB : Hid ((((l.length : Int)) != (m.length : Int)) = true) := hidep (by simp; omega)
    have HN : Hid (l ≠ m) := hidep (fun e => hne (by rw [e]))
    clear hne
    have hb := HB.out
    go_enter Try.func31, Try.ntmps31
    go_wp2
    go_ret
    exact ⟨ret_val (congrArg _ (decide_eq_false HN.out).symm), Below.refl _ _⟩
end Go.Proofs.Ythdafajhohdkoaa
