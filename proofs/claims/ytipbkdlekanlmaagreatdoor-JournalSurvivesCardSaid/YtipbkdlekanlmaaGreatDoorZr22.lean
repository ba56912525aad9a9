/- Journal: write. -/
import Derived.Test.YtipbkdlekanlmaaGreatDoorZr18
import Derived.Test.YtipbkdlekanlmaaGreatDoorZr21
import Derived.Test.YtipbkdlekanlmaaGreatDoorZr05
namespace Go.Proofs.YtipbkdlekanlmaaGreatDoor
open Go.RowKit Go.Lab Go.Disk Go.Jn
attribute [local go_sem] Oper.semAt_some
set_option maxRecDepth 100000
theorem range_map74 (f : Nat → Value) : (List.range 74).map f = [f 0, f 1, f 2, f 3, f 4, f 5, f 6, f 7, f 8, f 9, f 10, f 11, f 12, f 13, f 14, f 15, f 16, f 17, f 18, f 19, f 20, f 21, f 22, f 23, f 24, f 25, f 26, f 27, f 28, f 29, f 30, f 31, f 32, f 33, f 34, f 35, f 36, f 37, f 38, f 39, f 40, f 41, f 42, f 43, f 44, f 45, f 46, f 47, f 48, f 49, f 50, f 51, f 52, f 53, f 54, f 55, f 56, f 57, f 58, f 59, f 60, f 61, f 62, f 63, f 64, f 65, f 66, f 67, f 68, f 69, f 70, f 71, f 72, f 73] := rfl
theorem frame74 (t : Array Value) (ds : List Deferred) (h : t.size = 74) : ({ tmps := t, defers := ds } : Act) = { tmps := #[slot t 0, slot t 1, slot t 2, slot t 3, slot t 4, slot t 5, slot t 6, slot t 7, slot t 8, slot t 9, slot t 10, slot t 11, slot t 12, slot t 13, slot t 14, slot t 15, slot t 16, slot t 17, slot t 18, slot t 19, slot t 20, slot t 21, slot t 22, slot t 23, slot t 24, slot t 25, slot t 26, slot t 27, slot t 28, slot t 29, slot t 30, slot t 31, slot t 32, slot t 33, slot t 34, slot t 35, slot t 36, slot t 37, slot t 38, slot t 39, slot t 40, slot t 41, slot t 42, slot t 43, slot t 44, slot t 45, slot t 46, slot t 47, slot t 48, slot t 49, slot t 50, slot t 51, slot t 52, slot t 53, slot t 54, slot t 55, slot t 56, slot t 57, slot t 58, slot t 59, slot t 60, slot t 61, slot t 62, slot t 63, slot t 64, slot t 65, slot t 66, slot t 67, slot t 68, slot t 69, slot t 70, slot t 71, slot t 72, slot t 73], defers := ds } := by
  have e : t = ((List.range 74).map (slot t)).toArray := by
    apply Array.ext
    · simp [h]
    · intro i h1 h2
      simp [slot, Array.getD, h1]
  rw [range_map74] at e
  exact congrArg (fun x => ({ tmps := x, defers := ds } : Act)) e
theorem drop_cons' {α : Type} (l : List α) (i : Nat) (h : i < l.length) : l.drop i = l[i] :: l.drop (i + 1) := List.drop_eq_getElem_cons h
def WrI (D : Dk) (at' : Int) (l : List ByteArray) (w : World) (dlo dhi : Nat) (dv : Value) (iv : Value) (wr : World) : Prop := ∃ (i : Nat) (E : Dk), i ≤ l.length ∧ iv = .int .i64 (i : Nat) ∧ writesZ D at' l = writesZ E (at' + i) (l.drop i) ∧ DiskAt wr dlo dhi dv E ∧ Turn dlo dhi w wr
def ChI (D2 : Dk) (at' : Int) (l : List ByteArray) (w : World) (dlo dhi : Nat) (dv : Value) (tv iv : Value) (wr : World) : Prop := ∃ (i : Nat) (bo : Bool), i ≤ l.length ∧ iv = .int .i64 (i : Nat) ∧ tv = .bool bo ∧ checksZ D2 at' l true = checksZ D2 (at' + i) (l.drop i) bo ∧ DiskAt wr dlo dhi dv D2 ∧ Turn dlo dhi w wr
theorem turn_cell {lo hi : Nat} {w w' : World} (h : Turn lo hi w w') {b o : Nat} {v : Value} (hc : w.cell? ⟨b, o, none⟩ = some v) (hb : hi ≤ b) : w'.cell? ⟨b, o, none⟩ = some v := by
  have hl := World.block_lt_of_cell? w ⟨b, o, none⟩ hc
  have e := h.block b hl (by omega)
  simp only [World.cell?] at hc ⊢
  rw [e]
  exact hc
theorem strs_cell {w : World} {g c : Nat} {l : List ByteArray} {rlo : Nat} (h : w.ownsRow rlo 9 1 (.slice (some ⟨g, 0, none⟩) l.length c) l.length (strL l)) (i : Nat) (hi : i < l.length) : w.cell? ⟨g, i, none⟩ = some (.string l[i]) := by
  obtain ⟨b, o, he, _, hcell⟩ := Rd.at (Rd.of_own h) (by omega)
  injection he with he
  injection he with h1 h2
  subst h1 h2
  have := hcell i (.string l[i]) (by simp [strL, hi])
  rwa [Nat.zero_add] at this
set_option maxHeartbeats 8000000 in
theorem writeJ_any (p dv v : Value) (j : JZ) (D : Dk) (at' : Int) (l : List ByteArray) (w : World) (lo dlo dhi rlo : Nat) (hj : JAt w lo p dv j) (hd : DiskAt w dlo dhi dv D) (hlo : dhi ≤ lo) (hrlo : dhi ≤ rlo)
    (hrow : w.ownsRow rlo 9 1 v l.length (strL l)) (hat : 0 ≤ at' ∧ at' ≤ 100000) (hn1 : 0 < l.length) (hn : l.length ≤ 1000) (hsz : ∀ s ∈ l, s.size ≤ 1000) :
    Calls Tryz.prog 63 #[p, .int .i64 at', v] w fun e w' => e = .returned (.tuple #[.int .i64 (putZ D at' l).1, .bool (putZ D at' l).2.1]) ∧ DiskAt w' dlo dhi dv (putZ D at' l).2.2 ∧ Turn dlo dhi w w' := by
  obtain ⟨b, nv, bv, tv, rfl, hj⟩ := hj
  have hc0 := hj.cells.1
  have hbd : dhi ≤ b := Nat.le_trans hlo hj.hb
  obtain ⟨a, c, rfl, hcc, hcm⟩ := (Rd.of_own hrow).form
  obtain ⟨g, o, rfl, hgl, _⟩ := Rd.at (Rd.of_own hrow) hn1
  obtain ⟨ho, hgr⟩ : o = 0 ∧ rlo ≤ g := by
    rcases hrow.2 with ⟨he, _⟩ | ⟨g2, cap, cur, he, hg2, _⟩
    · cases he
    · injection he with he _ _
      injection he with he
      injection he with h1 h2
      exact ⟨h2, by omega⟩
  subst ho
  have hgd : dhi ≤ g := Nat.le_trans hrlo hgr
  obtain ⟨n, hnl⟩ : ∃ n, n = l.length := ⟨_, rfl⟩
  have HROW := hidep (And.intro hrow (And.intro hc0 (And.intro hsz hnl)))
  rw [← hnl] at hcc hn ⊢
  clear hj hrow hc0 hsz hn1 hnl hgl hgr
  unfold maxLen at hcm
  go_enter Tryz.func63, Tryz.ntmps63
  go_upto_region 2 with (fail)
  refine wp_loop (LoopI 74 (fun tm ds wr => (slot tm 0) = .pointer (some ⟨b, 0, none⟩) ∧ (slot tm 1) = .int .i64 at' ∧ (slot tm 2) = .slice (some ⟨g, 0, none⟩) n c ∧ (slot tm 17) = .slice (some ⟨g, 0, none⟩) n c ∧ (slot tm 18) = .int .i64 (n : Nat) ∧ ds = [] ∧ WrI D at' l w dlo dhi dv (slot tm 19) wr)) (fun a' wr => n - natI (a'.tmps.getD 19 undef)) ?wr1Start ?wr1Round
  case' wr1Start => refine LoopI.mk rfl ?_
  case' wr1Round => (rintro ⟨t, ds⟩ wr ⟨hts, hrel⟩; dsimp only at hts hrel; rw [frame74 t ds hts])
  case wr1Start => exact ⟨rfl, rfl, rfl, rfl, rfl, rfl, 0, D, Nat.zero_le _, rfl, by simp, hd, Turn.refl _ _ _⟩
  clear hd
  obtain ⟨e0, e1, e2, e17, e18, hds, i, E, hi, e19, hwz, hd, hT⟩ := hrel
  subst hds
  rw [e0, e1, e2, e17, e18, e19]
  clear e0 e1 e2 e17 e18 e19 hts
  have hc0 := turn_cell hT HROW.out.2.1 hbd
  by_cases hin : i < n
  · have hil : i < l.length := by rw [← HROW.out.2.2.2]; exact hin
    have hini : (i : Int) < (n : Int) := by omega
    have hi0 : (0 : Int) ≤ (i : Int) := by omega
    have hcs := turn_cell hT (strs_cell (by rw [← HROW.out.2.2.2]; have := HROW.out.1; rwa [← HROW.out.2.2.2] at this) i hil) hgd
    obtain ⟨s, hs⟩ : ∃ s, s = l[i] := ⟨_, rfl⟩
    have hss : s.size ≤ 1000 := HROW.out.2.2.1 s (by rw [hs]; exact List.getElem_mem hil)
    have hw : IntKind.i64.wrap (at' + (i : Int)) = at' + (i : Int) := IntWalk.i64_in _ (by omega)
    have HW := hidep (write_any dv E (at' + (i : Int)) s wr dlo dhi hd (by unfold maxLen; omega) (by omega))
    obtain ⟨er, her⟩ : ∃ er, er = writeE E (at' + (i : Int)) s := ⟨_, rfl⟩
    have hstep : writesZ D at' l = if er = 0 then writesZ (writeD E (at' + (i : Int)) s) (at' + (i : Int) + 1) (l.drop (i + 1)) else (er, writeD E (at' + (i : Int)) s) := by
      rw [hwz, drop_cons' l i hil, ← hs, her]
      rfl
    rw [← hs] at hcs
    rw [← her] at HW
    have HER := hidep her
    clear hs her hwz hd
    by_cases h0 : er = 0
    · have g1 : (er != 0) = false := by simp [h0]
      have g2 : (er == 0) = true := by simp [h0]
      rw [if_pos h0] at hstep
      have HST := hidep hstep
      clear hstep h0
      go_wp2_with (first
        | (go_at_call 10; refine HW.out.mono ?_; rintro e w5 ⟨rfl, hd5, hT5⟩)
        | fail)
      refine ⟨LoopI.mk rfl ⟨rfl, rfl, rfl, rfl, rfl, rfl, i + 1, _, by omega, by show Value.int _ _ = _; go_num, (HST.out.trans (by rw [show at' + (i : Int) + 1 = at' + ((i + 1 : Nat) : Int) from by omega])), hd5, hT.trans hT5⟩, ?_⟩
      show n - _ < n - _
      simp [natI]; omega
    · have g1 : (er != 0) = true := by simp [h0]
      have g2 : (er == 0) = false := by simp [h0]
      rw [if_neg h0] at hstep
      have hput : putZ D at' l = (er, false, writeD E (at' + (i : Int)) s) := by
        unfold putZ
        rw [hstep, if_pos h0]
      have HP := hidep hput
      clear hstep h0 hput
      go_wp2_with (first
        | (go_at_call 10; refine HW.out.mono ?_; rintro e w5 ⟨rfl, hd5, hT5⟩)
        | fail)
      refine bodyPost_ret (P := Tryz.prog) (fn := Tryz.f63) (results_tmp2 rfl _ _ _) (by kernel_rfl) ?_
      exact ⟨by rw [HP.out]; kernel_rfl, by rw [HP.out]; exact hd5, hT.trans hT5⟩
  · have hin2 : i = n := by have := HROW.out.2.2.2; omega
    have hini : ¬ (i : Int) < (n : Int) := by omega
    have hwz0 : writesZ D at' l = (0, E) := by
      rw [hwz, hin2, HROW.out.2.2.2, List.drop_length]
      rfl
    have HF := hidep (flush_any dv E wr dlo dhi hd)
    obtain ⟨er, her⟩ : ∃ er, er = flushE E := ⟨_, rfl⟩
    rw [← her] at HF
    have HWZ := hidep (And.intro hwz0 her)
    clear hwz hwz0 her hd hin2 hi
    by_cases h0 : er = 0
    · have g1 : (er != 0) = false := by simp [h0]
      have g2 : (er == 0) = true := by simp [h0]
      have hput : putZ D at' l = ((checksZ (flushD E) at' l true).1, (checksZ (flushD E) at' l true).2, flushD E) := by
        unfold putZ
        rw [HWZ.out.1, if_neg (by intro h; exact h rfl), if_neg (by rw [← HWZ.out.2]; intro h; exact h h0)]
      have HP := hidep hput
      clear h0 hput
      go_upto_region 13 with (first
        | (go_at_call 82; refine HF.out.mono ?_; rintro e w5 ⟨rfl, hd5, hT5⟩)
        | fail)
      have hT6 := hT.trans hT5
      obtain ⟨D2, hD2⟩ : ∃ D2, D2 = flushD E := ⟨_, rfl⟩
      rw [← hD2] at hd5 HP
      clear hT hT5 hD2 hc0
      refine wp_loop (LoopI 74 (fun tm ds wr => (slot tm 0) = .pointer (some ⟨b, 0, none⟩) ∧ (slot tm 1) = .int .i64 at' ∧ (slot tm 45) = .slice (some ⟨g, 0, none⟩) n c ∧ (slot tm 46) = .int .i64 (n : Nat) ∧ ds = [] ∧ ChI D2 at' l w dlo dhi dv (slot tm 12) (slot tm 47) wr)) (fun a' wr => n - natI (a'.tmps.getD 47 undef)) ?wr2Start ?wr2Round
      case' wr2Start => refine LoopI.mk rfl ?_
      case' wr2Round => (rintro ⟨t, ds⟩ wr ⟨hts, hrel⟩; dsimp only at hts hrel; rw [frame74 t ds hts])
      case wr2Start => exact ⟨rfl, rfl, rfl, rfl, rfl, 0, true, Nat.zero_le _, rfl, rfl, by simp, hd5, hT6⟩
      clear hd5 hT6 hini
      obtain ⟨e0, e1, e45, e46, hds, i, bo, hi, e47, e12, hcz, hd, hT⟩ := hrel
      subst hds
      rw [e0, e1, e12, e45, e46, e47]
      clear e0 e1 e12 e45 e46 e47 hts g1 g2
      have hc0 := turn_cell hT HROW.out.2.1 hbd
      by_cases hin : i < n
      · have hil : i < l.length := by rw [← HROW.out.2.2.2]; exact hin
        have hini : (i : Int) < (n : Int) := by omega
        have hi0 : (0 : Int) ≤ (i : Int) := by omega
        have hcs := turn_cell hT (strs_cell (by rw [← HROW.out.2.2.2]; have := HROW.out.1; rwa [← HROW.out.2.2.2] at this) i hil) hgd
        obtain ⟨s, hs⟩ : ∃ s, s = l[i] := ⟨_, rfl⟩
        have hw : IntKind.i64.wrap (at' + (i : Int)) = at' + (i : Int) := IntWalk.i64_in _ (by omega)
        have HRD := hidep (read_any dv D2 (at' + (i : Int)) wr dlo dhi hd (by omega))
        obtain ⟨er, her⟩ : ∃ er, er = (readZ D2 (at' + (i : Int))).2 := ⟨_, rfl⟩
        obtain ⟨tt, htt⟩ : ∃ tt, tt = (readZ D2 (at' + (i : Int))).1 := ⟨_, rfl⟩
        have hstep : checksZ D2 at' l true = if er = 0 then checksZ D2 (at' + (i : Int) + 1) (l.drop (i + 1)) (bo && decide (s = tt)) else (er, false) := by
          rw [hcz, drop_cons' l i hil, ← hs, her, htt]
          rfl
        rw [← hs] at hcs
        rw [← her, ← htt] at HRD
        have HDD := hidep hd
        clear hs her htt hcz hd
        by_cases h0 : er = 0
        · have g1 : (er != 0) = false := by simp [h0]
          have g2 : (er == 0) = true := by simp [h0]
          rw [if_pos h0] at hstep
          have HST := hidep hstep
          clear hstep h0
          cases bo with
          | true =>
            go_wp2_with (first
              | (go_at_call 48; refine HRD.out.mono ?_; rintro e w5 ⟨rfl, hb5⟩)
              | fail)
            refine ⟨LoopI.mk rfl ⟨rfl, rfl, rfl, rfl, rfl, i + 1, decide (s = tt), by omega, by show Value.int _ _ = _; go_num, by show Value.bool _ = Value.bool _; rw [← str_beq], (HST.out.trans (by rw [Bool.true_and, show at' + (i : Int) + 1 = at' + ((i + 1 : Nat) : Int) from by omega])), HDD.out.below hb5, hT.trans (Turn.of_below hb5)⟩, ?_⟩
            show n - _ < n - _
            simp [natI]; omega
          | false =>
            go_wp2_with (first
              | (go_at_call 48; refine HRD.out.mono ?_; rintro e w5 ⟨rfl, hb5⟩)
              | fail)
            refine ⟨LoopI.mk rfl ⟨rfl, rfl, rfl, rfl, rfl, i + 1, false, by omega, by show Value.int _ _ = _; go_num, rfl, (HST.out.trans (by rw [Bool.false_and, show at' + (i : Int) + 1 = at' + ((i + 1 : Nat) : Int) from by omega])), HDD.out.below hb5, hT.trans (Turn.of_below hb5)⟩, ?_⟩
            show n - _ < n - _
            simp [natI]; omega
        · have g1 : (er != 0) = true := by simp [h0]
          have g2 : (er == 0) = false := by simp [h0]
          rw [if_neg h0] at hstep
          have HST := hidep hstep
          clear hstep h0
          go_wp2_with (first
            | (go_at_call 48; refine HRD.out.mono ?_; rintro e w5 ⟨rfl, hb5⟩)
            | fail)
          refine bodyPost_ret (P := Tryz.prog) (fn := Tryz.f63) (results_tmp2 rfl _ _ _) (by kernel_rfl) ?_
          exact ⟨by rw [HP.out, HST.out]; kernel_rfl, by rw [HP.out]; exact HDD.out.below hb5, hT.trans (Turn.of_below hb5)⟩
      · have hini : ¬ (i : Int) < (n : Int) := by omega
        have hin2 : i = l.length := by have := HROW.out.2.2.2; omega
        have hend : checksZ D2 at' l true = (0, bo) := by
          rw [hcz, hin2, List.drop_length]
          rfl
        have HE := hidep hend
        clear hcz hend hin2
        go_wp2
        refine bodyPost_ret (P := Tryz.prog) (fn := Tryz.f63) (results_tmp2 rfl _ _ _) (by kernel_rfl) ?_
        exact ⟨by rw [HP.out, HE.out]; kernel_rfl, by rw [HP.out]; exact hd, hT⟩
    · have g1 : (er != 0) = true := by simp [h0]
      have g2 : (er == 0) = false := by simp [h0]
      have hput : putZ D at' l = (er, false, flushD E) := by
        unfold putZ
        rw [HWZ.out.1, if_neg (by intro h; exact h rfl), if_pos (by rw [← HWZ.out.2]; exact h0), ← HWZ.out.2]
      have HP := hidep hput
      clear h0 hput
      go_wp2_with (first
        | (go_at_call 82; refine HF.out.mono ?_; rintro e w5 ⟨rfl, hd5, hT5⟩)
        | fail)
      refine bodyPost_ret (P := Tryz.prog) (fn := Tryz.f63) (results_tmp2 rfl _ _ _) (by kernel_rfl) ?_
      exact ⟨by rw [HP.out]; kernel_rfl, by rw [HP.out]; exact hd5, hT.trans hT5⟩
end Go.Proofs.YtipbkdlekanlmaaGreatDoor
/- A region that draws its order and whose last operations (the list D) store into what it has loaded: S need not hold behind these. No program in sight. -/
namespace Go.Lab
open Go
section
variable {P : Program} {ops : Array Oper} {Q : Exit → Act → World → Prop} {md : Region.Mode} {S : World → Prop} {D : List Nat}
def wpAnyD (P : Program) (md : Region.Mode) (ops : Array Oper) (Q : Exit → Act → World → Prop) (S : World → Prop) (D : List Nat) : Nat → Array Bool → Act → World → Prop
  | 0, listed, a, w => Region.ready md ops listed = [] ∧ Q .normal a w
  | fuel + 1, listed, a, w => (Region.ready md ops listed = [] → Q .normal a w) ∧
    ∀ i ∈ Region.ready md ops listed, wpOp P ops Q i (fun a' w' => if D.contains i = true then wpAny P md ops Q fuel (listed.setIfInBounds i true) a' w' else S w' ∧ wpAnyD P md ops Q S D fuel (listed.setIfInBounds i true) a' w') a w
theorem wpAny_of_D : ∀ (fuel : Nat) (listed : Array Bool) (a : Act) (w : World), wpAnyD P md ops Q S D fuel listed a w → wpAny P md ops Q fuel listed a w
  | 0, _, _, _, h => h
  | fuel + 1, _, _, _, h => ⟨h.1, fun i hi => wpOp_mono (fun a' w' h' => by
      by_cases hD : D.contains i = true
      · rw [if_pos hD] at h'; exact h'
      · rw [if_neg hD] at h'; exact wpAny_of_D fuel _ a' w' h'.2) (h.2 i hi)⟩
/-- All that a listed operation waits for is listed. -/
def Closed (md : Region.Mode) (ops : Array Oper) (listed : Array Bool) : Prop := ∀ j oj, ops[j]? = some oj → listed.getD j false = true → ∀ e ∈ oj.after, Region.binds md e = true → listed.getD e.on false = true
def closedB (md : Region.Mode) (ops : Array Oper) (listed : Array Bool) : Bool := (List.range ops.size).all fun j => !(listed.getD j false) || (match ops[j]? with | some o => o.after.all (fun e => !(Region.binds md e) || listed.getD e.on false) | none => true)
theorem closedB_spec {listed : Array Bool} (h : closedB md ops listed = true) : Closed md ops listed := by
  intro j oj hoj hl e he hb
  have hlt : j < ops.size := (Array.getElem?_eq_some_iff.1 hoj).1
  have h1 := List.all_eq_true.1 h j (List.mem_range.2 hlt)
  rw [hl, hoj] at h1
  have h2 : oj.after.all (fun e => !(Region.binds md e) || listed.getD e.on false) = true := by simpa using h1
  have h3 := Array.all_eq_true_iff_forall_mem.1 h2 e he
  rw [hb] at h3
  simpa using h3
theorem Closed.set {listed : Array Bool} (h : Closed md ops listed) {i : Nat} (hi : i ∈ Region.ready md ops listed) : Closed md ops (listed.setIfInBounds i true) := by
  intro j oj hoj hl e he hb
  by_cases hj : j = i
  · subst hj
    obtain ⟨_, o, ho, hall⟩ := mem_ready.1 hi
    rw [hoj] at ho
    injection ho with ho
    subst ho
    exact getD_set_true (hall e he hb)
  · rw [getD_set_ne false (Ne.symm hj)] at hl
    exact getD_set_true (h j oj hoj hl e he hb)
/-- Does operation j wait for operation i, directly or through others? -/
def waits (md : Region.Mode) (ops : Array Oper) : Nat → Nat → Nat → Bool
  | 0, _, _ => false
  | f + 1, i, j => match ops[j]? with
    | some o => o.after.any (fun e => Region.binds md e && e.on == i) || o.after.any (fun e => Region.binds md e && waits md ops f i e.on)
    | none => false
theorem waits_listed {listed : Array Bool} (h : Closed md ops listed) {i : Nat} : ∀ (f j : Nat) (oj : Oper), ops[j]? = some oj → (∀ e ∈ oj.after, Region.binds md e = true → listed.getD e.on false = true) → waits md ops f i j = true → listed.getD i false = true
  | 0, _, _, _, _, hw => by simp [waits] at hw
  | f + 1, j, oj, hoj, hall, hw => by
    rw [waits, hoj] at hw
    simp only [Bool.or_eq_true] at hw
    rcases hw with hw | hw
    · obtain ⟨k, hk, e⟩ := Array.any_iff_exists.1 hw
      rw [Bool.and_eq_true] at e
      have h1 := hall _ (Array.getElem_mem _) e.2.2.1
      have h2 := e.2.2.2
      simp only [beq_iff_eq] at h2
      rwa [h2] at h1
    · obtain ⟨k, hk, e⟩ := Array.any_iff_exists.1 hw
      rw [Bool.and_eq_true] at e
      have h1 := hall _ (Array.getElem_mem _) e.2.2.1
      have h2 := e.2.2.2
      cases hq : ops[(oj.after[k]'hk).on]? with
      | none =>
        cases f with
        | zero => simp [waits] at h2
        | succ f => rw [waits, hq] at h2; cases h2
      | some o' => exact waits_listed h f _ o' hq (fun e' he' hb' => h _ o' hq h1 e' he' hb') h2
theorem not_listed_ready {listed : Array Bool} {i : Nat} (hi : i ∈ Region.ready md ops listed) (h : listed.getD i false = true) : False := by
  have h0 := (mem_ready.1 hi).1
  rcases Nat.lt_or_ge i listed.size with h' | h'
  · simp [h'] at h0 h; rw [h0] at h; cases h
  · simp [Array.getElem?_eq_none h'] at h
theorem wpAnyD_first {i : Nat} {oi : Oper} {v : Value} (hi : ops[i]? = some oi) (hsel : ∀ (j : Nat) (o : Oper) cs b, ops[j]? = some o → o.op ≠ .select cs b)
    (hQ : ∀ c a w, Q (.panic c) (a.put oi.dst v) w → Q (.panic c) a w) (hDi : ¬ D.contains i = true)
    (hcl : ∀ j, D.contains j = true → waits md ops 8 i j = true) :
    ∀ (fuel : Nat) (listed : Array Bool) (a : Act) (w : World), Closed md ops listed →
      (∀ j oj, ops[j]? = some oj → j ≠ i → listed.getD j true = false → (∀ e ∈ oj.after, Region.binds md e = true → e.on ≠ i) → oi.apart ops oj = true) →
      i ∈ Region.ready md ops listed → YieldsIf P ops S oi v a → S w →
      wpAnyD P md ops Q S D fuel (listed.setIfInBounds i true) (a.put oi.dst v) w → wpAnyD P md ops Q S D (fuel + 1) listed a w := by
  intro fuel
  induction fuel with
  | zero =>
    intro listed a w _ _ hr hy hS H
    refine ⟨fun h => (by rw [h] at hr; cases hr), fun j hj => ?_⟩
    by_cases hji : j = i
    · subst hji
      refine hy.wpOp hi hS ?_
      rw [if_neg hDi]
      exact ⟨hS, H⟩
    · have := ready_mono hj hji
      rw [H.1] at this
      cases this
  | succ fuel ih =>
    intro listed a w hcd hfree hr hy hS H
    refine ⟨fun h => (by rw [h] at hr; cases hr), fun j hj => ?_⟩
    by_cases hji : j = i
    · subst hji
      refine hy.wpOp hi hS ?_
      rw [if_neg hDi]
      exact ⟨hS, H⟩
    · have h1 := H.2 j (ready_mono hj hji)
      obtain ⟨hjun, oj, hoj, hall⟩ := mem_ready.1 hj
      have hnot : ∀ e ∈ oj.after, Region.binds md e = true → e.on ≠ i := fun e he hb heq => by
        have h1 := hall e he hb
        have h0 := (mem_ready.1 hr).1
        rw [heq] at h1
        rcases Nat.lt_or_ge i listed.size with h' | h'
        · simp [h'] at h0 h1; rw [h0] at h1; cases h1
        · simp [Array.getElem?_eq_none h'] at h1
      have hDj : ¬ D.contains j = true := fun hD => not_listed_ready hr (waits_listed hcd 8 j oj hoj hall (hcl j hD))
      have h2 := wpOp_putIf hoj (hfree j oj hoj hji hjun hnot) (fun cs b => hsel i oi cs b hi) (fun cs b => hsel j oj cs b hoj) hQ hy h1
      have hfree' : ∀ k ok, ops[k]? = some ok → k ≠ i → (listed.setIfInBounds j true).getD k true = false →
          (∀ e ∈ ok.after, Region.binds md e = true → e.on ≠ i) → oi.apart ops ok = true := fun k ok hk hki hun hno => by
        refine hfree k ok hk hki ?_ hno
        by_cases hjk : j = k
        · subst hjk; exact hjun
        · rw [getD_set_ne true hjk] at hun; exact hun
      refine wpOp_mono (fun a' w' h3 => ?_) h2
      rw [if_neg hDj] at h3 ⊢
      refine ⟨h3.2.1, ih (listed.setIfInBounds j true) a' w' (hcd.set hj) hfree' (ready_mono hr (Ne.symm hji)) h3.1 h3.2.1 ?_⟩
      rw [Array.setIfInBounds_comm _ _ hji]
      exact h3.2.2
/-- All of D wait for number i, and what is listed is closed. -/
def closesOn (md : Region.Mode) (ops : Array Oper) (D : List Nat) (listed : Array Bool) (i : Nat) : Bool := !D.contains i && (D.all (fun j => waits md ops 8 i j) && closedB md ops listed)
theorem closesOn_spec {i : Nat} {listed : Array Bool} (h : closesOn md ops D listed i = true) : ¬ D.contains i = true ∧ (∀ j, D.contains j = true → waits md ops 8 i j = true) ∧ Closed md ops listed := by
  unfold closesOn at h
  rw [Bool.and_eq_true, Bool.and_eq_true] at h
  exact ⟨by simpa using h.1, fun j hj => List.all_eq_true.1 h.2.1 j (by simpa using hj), closedB_spec h.2.2⟩
theorem wpAnyD_take {i : Nat} {oi : Oper} {v : Value} {fuel : Nat} {listed : Array Bool} {a : Act} {w : World} (hi : ops[i]? = some oi)
    (hs : Region.noSelect ops = true) (hf : Region.free md ops listed i = true) (hr : (Region.ready md ops listed).contains i = true)
    (hQ : ∀ c a w, Q (.panic c) (a.put oi.dst v) w → Q (.panic c) a w) (hy : YieldsIf P ops S oi v a) (hS : S w) (hc : closesOn md ops D listed i = true)
    (h : wpAnyD P md ops Q S D fuel (listed.setIfInBounds i true) (a.put oi.dst v) w) : wpAnyD P md ops Q S D (fuel + 1) listed a w :=
  wpAnyD_first hi (Region.noSelect_spec hs) hQ (closesOn_spec hc).1 (closesOn_spec hc).2.1 fuel listed a w (closesOn_spec hc).2.2 (Region.free_spec hi hf) (by simpa using hr) hy hS h
theorem wpAnyD_firstY {i : Nat} {oi : Oper} {v : Value} (hi : ops[i]? = some oi) (hsel : ∀ (j : Nat) (o : Oper) cs b, ops[j]? = some o → o.op ≠ .select cs b)
    (hQ : ∀ c a w, Q (.panic c) (a.put oi.dst v) w → Q (.panic c) a w) (hDi : ¬ D.contains i = true) :
    ∀ (fuel : Nat) (listed : Array Bool) (a : Act) (w : World),
      (∀ j oj, ops[j]? = some oj → j ≠ i → listed.getD j true = false → (∀ e ∈ oj.after, Region.binds md e = true → e.on ≠ i) → oi.apart ops oj = true) →
      i ∈ Region.ready md ops listed → Yields P ops oi v a → S w →
      wpAnyD P md ops Q S D fuel (listed.setIfInBounds i true) (a.put oi.dst v) w → wpAnyD P md ops Q S D (fuel + 1) listed a w := by
  intro fuel
  induction fuel with
  | zero =>
    intro listed a w _ hr hy hS H
    refine ⟨fun h => (by rw [h] at hr; cases hr), fun j hj => ?_⟩
    by_cases hji : j = i
    · subst hji
      refine hy.wpOp hi ?_
      rw [if_neg hDi]
      exact ⟨hS, H⟩
    · have := ready_mono hj hji
      rw [H.1] at this
      cases this
  | succ fuel ih =>
    intro listed a w hfree hr hy hS H
    refine ⟨fun h => (by rw [h] at hr; cases hr), fun j hj => ?_⟩
    by_cases hji : j = i
    · subst hji
      refine hy.wpOp hi ?_
      rw [if_neg hDi]
      exact ⟨hS, H⟩
    · have h1 := H.2 j (ready_mono hj hji)
      obtain ⟨hjun, oj, hoj, hall⟩ := mem_ready.1 hj
      have hnot : ∀ e ∈ oj.after, Region.binds md e = true → e.on ≠ i := fun e he hb heq => by
        have h1 := hall e he hb
        rw [heq] at h1
        exact not_listed_ready hr h1
      have h2 := wpOp_put hoj (hfree j oj hoj hji hjun hnot) (fun cs b => hsel i oi cs b hi) (fun cs b => hsel j oj cs b hoj) hQ hy h1
      have hfree' : ∀ k ok, ops[k]? = some ok → k ≠ i → (listed.setIfInBounds j true).getD k true = false →
          (∀ e ∈ ok.after, Region.binds md e = true → e.on ≠ i) → oi.apart ops ok = true := fun k ok hk hki hun hno => by
        refine hfree k ok hk hki ?_ hno
        by_cases hjk : j = k
        · subst hjk; exact hjun
        · rw [getD_set_ne true hjk] at hun; exact hun
      refine wpOp_mono (fun a' w' h3 => ?_) h2
      by_cases hDj : D.contains j = true
      · rw [if_pos hDj] at h3 ⊢
        refine wpAny_first hi hsel hQ fuel (listed.setIfInBounds j true) a' w' hfree' (ready_mono hr (Ne.symm hji)) h3.1 ?_
        rw [Array.setIfInBounds_comm _ _ hji]
        exact h3.2
      · rw [if_neg hDj] at h3 ⊢
        refine ⟨h3.2.1, ih (listed.setIfInBounds j true) a' w' hfree' (ready_mono hr (Ne.symm hji)) h3.1 h3.2.1 ?_⟩
        rw [Array.setIfInBounds_comm _ _ hji]
        exact h3.2.2
/-- An operation that yields in whatever world is taken first, whatever waits for it. -/
theorem wpAnyD_takeY {i : Nat} {oi : Oper} {v : Value} {fuel : Nat} {listed : Array Bool} {a : Act} {w : World} (hi : ops[i]? = some oi)
    (hs : Region.noSelect ops = true) (hf : Region.free md ops listed i = true) (hr : (Region.ready md ops listed).contains i = true)
    (hQ : ∀ c a w, Q (.panic c) (a.put oi.dst v) w → Q (.panic c) a w) (hy : Yields P ops oi v a) (hS : S w) (hc : D.contains i = false)
    (h : wpAnyD P md ops Q S D fuel (listed.setIfInBounds i true) (a.put oi.dst v) w) : wpAnyD P md ops Q S D (fuel + 1) listed a w :=
  wpAnyD_firstY hi (Region.noSelect_spec hs) hQ (by rw [hc]; decide) fuel listed a w (Region.free_spec hi hf) (by simpa using hr) hy hS h
def AllReadyD (P : Program) (md : Region.Mode) (ops : Array Oper) (Q : Exit → Act → World → Prop) (S : World → Prop) (D : List Nat) (fuel : Nat) (listed : Array Bool) (a : Act) (w : World) (rs : List Nat) : Prop :=
  ∀ i ∈ rs, wpOp P ops Q i (fun a' w' => if D.contains i = true then wpAny P md ops Q fuel (listed.setIfInBounds i true) a' w' else S w' ∧ wpAnyD P md ops Q S D fuel (listed.setIfInBounds i true) a' w') a w
theorem AllReadyD.nil {fuel : Nat} {listed : Array Bool} {a : Act} {w : World} : AllReadyD P md ops Q S D fuel listed a w [] := fun _ h => by cases h
theorem AllReadyD.cons {fuel : Nat} {listed : Array Bool} {a : Act} {w : World} {i : Nat} {o : Oper} {rs : List Nat} (ho : ops[i]? = some o) (hD : D.contains i = false)
    (h : ∀ K' : Act → World → Prop, Shut (∀ a w, S w → (S w → wpAnyD P md ops Q S D fuel (listed.setIfInBounds i true) a w) → K' a w) → if Region.wanted o (yielded ops a.tmps) = true then Oper.wp P o a w K' Q else K' (a.put o.dst undef) w)
    (hs : AllReadyD P md ops Q S D fuel listed a w rs) : AllReadyD P md ops Q S D fuel listed a w (i :: rs) := fun j hj => by
  rcases List.mem_cons.1 hj with rfl | hj
  · exact wpOp_step ho (fun K' hK => h K' (fun a w hS hW => hK a w (by rw [if_neg (by rw [hD]; decide)]; exact ⟨hS, hW hS⟩)))
  · exact hs j hj
theorem AllReadyD.last {fuel : Nat} {listed : Array Bool} {a : Act} {w : World} {i : Nat} {o : Oper} {rs : List Nat} (ho : ops[i]? = some o) (hD : D.contains i = true)
    (h : ∀ K' : Act → World → Prop, Shut (∀ a w, wpAnyH P md ops Q (fun _ => True) fuel (listed.setIfInBounds i true) a w → K' a w) → if Region.wanted o (yielded ops a.tmps) = true then Oper.wp P o a w K' Q else K' (a.put o.dst undef) w)
    (hs : AllReadyD P md ops Q S D fuel listed a w rs) : AllReadyD P md ops Q S D fuel listed a w (i :: rs) := fun j hj => by
  rcases List.mem_cons.1 hj with rfl | hj
  · exact wpOp_step ho (fun K' hK => h K' (fun a w hW => hK a w (by rw [if_pos hD]; exact wpAny_of_held _ _ _ _ hW)))
  · exact hs j hj
theorem wpAnyD_ready {rs : List Nat} {fuel : Nat} {listed : Array Bool} {a : Act} {w : World} (hr : Region.ready md ops listed = rs) (hne : rs ≠ [])
    (h : AllReadyD P md ops Q S D fuel listed a w rs) : wpAnyD P md ops Q S D (fuel + 1) listed a w := ⟨fun h0 => absurd (hr ▸ h0) hne, hr ▸ h⟩
theorem wpAnyD_done {listed : Array Bool} {a : Act} {w : World} (hr : Region.ready md ops listed = []) (h : Q .normal a w) :
    ∀ fuel, wpAnyD P md ops Q S D fuel listed a w
  | 0 => ⟨hr, h⟩
  | _ + 1 => ⟨fun _ => h, by rw [hr]; simp⟩
theorem wp_region_heldD (D : List Nat) {id : Nat} {a : Act} {w : World} (hm : P.follows .mixedOrders = true) (hS : S w.drew)
    (h : S w.drew → wpAnyD P .any ops Q S D ops.size (Array.replicate ops.size false) a w.drew) : (Code.region id ops true).wp P Q a w :=
  wp_region_any hm (wpAny_of_D _ _ _ _ (h hS))
theorem wpIn_region_roundD (D : List Nat) {a : Act} {w : World} {l n id : Nat} (hm : P.follows .mixedOrders = true) (hnd : noDefer ops = true) (hQ : ¬ LetsOut Q) (hS : S w.drew)
    (h : S w.drew → wpAnyD P .any ops Q S D ops.size (Array.replicate ops.size false) a w.drew) : (Code.region id ops true).wpIn (Fence.wide.inRound l) n P Q a w :=
  wpIn_region_any hm (wpAny_round hnd hQ _ _ _ _ (wpAny_of_D _ _ _ _ (h hS)))
/-- An operation under a guard that holds. -/
theorem wpList_value_g {w w' : World} {rest : List Oper} {o : Oper} {a : Act} {v : Value} (hgd : Region.wanted o (yielded ops a.tmps) = true) (hr : (execOp a.eval o).run P w = .ok (.value v) w') (h : wpList P ops Q rest (a.put o.dst v) w') : wpList P ops Q (o :: rest) a w := by
  refine wpList_step fun K hK => ?_
  rw [if_pos hgd]
  unfold Oper.wp
  rw [hr]
  exact hK _ _ h
theorem load_mid_run {op : Oper} {ρ : Operand → Value} {w : World} (ty : TypeId) (x : Operand) (ho : op.op = .load ty x)
    (b o : Nat) (hx : ρ x = .pointer (some ⟨b, o, none⟩)) (cs : List Value) (d : TypeDesc) (hc : w.rangeAt b o cs)
    (hu : P.underlying ty = some d) (hd : d.isRow = true) (hi : (P.info? ty).map (·.size) = some cs.length) : (execOp ρ op).run P w = .ok (.value (.agg cs.toArray)) w := by
  unfold execOp
  simp only [ho, hx, Instr.loadAt, Instr.sureAddr, Sem.run_bind, Sem.run_pure, Result.andThen_ok, run_loadVar_mid w b o ty cs d hc hu hd hi]
end
end Go.Lab
