/- Contracts of package merge: the iterator over the edits of both authors in the order of their places. -/
import Derived.Test.YthdafajhohdkoaaMgI
import Derived.Test.YthdafajhohdkoaaMgH
import Derived.Test.YthdafajhohdkoaaMgD
namespace Go.Proofs.Ythdafajhohdkoaa
open Go.RowKit Go.Lab Go.Shelf
attribute [local go_sem] Oper.semAt_some
/-- What this iterator reads. -/
def Te (t : TypeId) : Prop := t = 36 ∨ t = 25 ∨ t = 84
theorem keepsTe_t {A B C : World} (h : Keeps Te A B) (k : Keeps Te B C) : Keeps Te A C := h.trans k
theorem keepsTe_b {n : Nat} (W : World) (l : Nat) (o o' : Obj) (_ : n ≤ l) (h : W.heap[l]? = some o) (ho : o.isCells = false) (_ : o.isWalk = false) : Keeps Te W (W.putObj l o') := by
  refine ⟨by simp, fun b cur t fz _ hb => ?_⟩
  by_cases e : b = l
  · subst e
    rw [h] at hb
    injection hb with hb
    subst hb
    cases ho
  · exact (World.putObj_heap_other e).trans hb
set_option maxRecDepth 100000 in
set_option maxHeartbeats 4000000 in
theorem values1_in (n : Nat) (hn : 1 ≤ n) {G : EV → Prop} (l Ba : Nat) (a : List { x : EV // G x }) (va : Value) (fa : Nat × Nat) (hsl : ∀ x, G x → ∃ p n c, x.2 = .slice p n c) (J Jx : List { x : EV // G x } → World → Prop)
    (hJb : ∀ {s : List { x : EV // G x }} {A B : World}, J s A → Below A.heap.size A B → J s B)
    (hY : ∀ pre x W, J pre W → pre.length < a.length → YieldAt Fence.wide (n - 1) Try.prog l #[editV x.1.1 x.1.2] W fun e W' =>
      (e = .returned (.bool true) ∧ J (pre ++ [x]) W' ∧ Keeps Te W W') ∨ (e = .returned (.bool false) ∧ Jx (pre ++ [x]) W'))
    (W : World) (hA : W.heap[Ba]? = some (.cells #[va] 25 fa)) (hEa : Rd W (· = 36) 3 va a.length (evC (a.map (·.1)))) (h0 : J [] W) :
    CallsIn Fence.wide n Try.prog 85 #[.func (.yield l) #[] #[], .pointer (some ⟨Ba, 0, none⟩)] W fun e W' => (∃ v, e = .returned v) ∧
      ((∃ ys, ys = a ∧ J ys W') ∨ (∃ pre, pre <+: a ∧ Jx pre W')) := by
  obtain ⟨aa, ca, rfl, hca, hma⟩ := hEa.form
  unfold maxLen at hma
  have hcA := box_cell hA
  have hfw : Fence.wide.fn 85 := trivial
  refine callsIn_of_wp Try.func85 rfl hfw ?_ rfl
  simp only [Try.ntmps85, List.size_toArray, List.length_cons, List.length_nil, Nat.reduceAdd, Nat.reduceSub, Array.replicate_succ, Array.replicate_zero, List.push_toArray, List.append_toArray, List.nil_append, List.cons_append]
  gi_wp2
  gi_loopw [7] (fun i wr => ∃ k : Nat, k ≤ a.length ∧ i = .int .i64 k ∧ J (a.take k) wr ∧ Keeps Te W wr) (fun i _ => a.length - (intOf i).toNat)
  case atStart => exact ⟨0, Nat.zero_le _, rfl, h0, Keeps.refl _ _⟩
  case round =>
    obtain ⟨k, hk, rfl, hJ0, hkp⟩ := hrel
    by_cases hlt : k < a.length
    · have hcc := rdEv_at (l := a.map (·.1)) (a := aa) (c := ca) (k := k) (by rw [List.length_map]; exact hEa.keeps (hkp.mono (by rintro t rfl; exact .inl rfl))) (by rw [List.length_map]; exact hlt)
      simp only [List.getElem_map] at hcc
      obtain ⟨bx, ox, rfl, hbx, hc0, hc1, hc2⟩ := hcc
      obtain ⟨au, nu, cu, hu⟩ := hsl _ a[k].2
      have HT : Hid (a.take (k + 1) = a.take k ++ [a[k]] ∧ (a.take k).length < a.length) := hidep ⟨List.take_succ_eq_append_getElem hlt, by simp; omega⟩
      generalize a[k] = x at *
      obtain ⟨⟨⟨p, d, ins⟩, u⟩, gx⟩ := x
      simp only at hc0 hc1 hc2 hu
      subst hu
      have hJ1 := hJb hJ0 (show Below wr.heap.size wr (wr.alloc (.cells #[.int .i64 p, .int .i64 d, .slice au nu cu] 36)) from (Below.refl _ _).alloc (Nat.le_refl _) _)
      obtain ⟨fn, tmps, assign, body, hy, hR⟩ := hY _ ⟨(⟨p, d, ins⟩, .slice au nu cu), gx⟩ _ hJ1 HT.out.2
      dsimp only [editV] at hy
      have hk1 := hkp.trans (Keeps.alloc Te wr (.cells #[.int .i64 p, .int .i64 d, .slice au nu cu] 36))
      gi_wp2
      refine hR.mono ?_
      rintro e W3 (⟨rfl, hJ3, hk3⟩ | ⟨rfl, hJx3⟩)
      · gi_wp2
        go_roundw
        case rel => exact ⟨k + 1, by omega, by go_num, by rw [HT.out.1]; exact hJ3, hk1.trans hk3⟩
        case measure => simp [intOf]; omega
      · gi_wp2
        refine bodyPost_ret (results_none rfl _ _ _) rfl ?_
        exact ⟨⟨_, rfl⟩, .inr ⟨_, by rw [← HT.out.1]; exact List.take_prefix _ _, hJx3⟩⟩
    · gi_wp2
      go_end0
      have hkl : k = a.length := by omega
      rw [hkl, List.take_length] at hJ0
      exact ⟨⟨_, rfl⟩, .inl ⟨_, rfl, hJ0⟩⟩
theorem values_stops (n : Nat) (hn : 1 ≤ n) {G : EV → Prop} (Ba : Nat) (a : List { x : EV // G x }) (va : Value) (fa : Nat × Nat) (hsl : ∀ x, G x → ∃ p n c, x.2 = .slice p n c)
    (w : World) (hA : w.heap[Ba]? = some (.cells #[va] 25 fa)) (hEa : Rd w (· = 36) 3 va a.length (evC (a.map (·.1)))) :
    SeqStopsK Fence.wide n Try.prog 85 #[.pointer (some ⟨Ba, 0, none⟩)] (fun x : { x : EV // G x } => #[editV x.1.1 x.1.2]) (Keeps Te) (fun ys => ys = a) (fun pre => pre <+: a) a.length w :=
  fun l J Jx W hW hJ _ hY h0 => values1_in n hn l Ba a va fa hsl J Jx (fun hs hb => abides_below hJ hs hb) hY W ((hW.block _ (lt_of_block hA)).trans hA) (hEa.below hW) h0
set_option maxHeartbeats 1000000 in
theorem values_any (aa : Option Addr) (la ca : Nat) (w : World) :
    Calls Try.prog 75 #[.slice aa la ca] w fun e w' => e = .returned (.func (.func 85) #[] #[.pointer (some ⟨w.heap.size, 0, none⟩)]) ∧ w' = w.alloc (.cells #[.slice aa la ca] 25) := by
  go_enter Try.func75, Try.ntmps75
  go_wp2
  go_ret
  exact ⟨rfl, rfl⟩
/-- The edits of both: those of a, and those of b that a does not have. -/
def bothL (av bv : List EV) : List EV := av ++ bv.filter fun x => !memB (av.map (·.1)) x.1
theorem lit2_ev {w : World} {u1 u2 : Value} {a b : List EV} (h1 : EvRd w u1 a) (h2 : EvRd w u2 b) :
    EvssAt (w.alloc (.cells #[u1, u2] 25)) (.slice (some ⟨w.heap.size, 0, none⟩) 2 2) [a, b] := by
  have hb : Below w.heap.size w (w.alloc (.cells #[u1, u2] 25)) := (Below.refl _ _).alloc (Nat.le_refl _) _
  refine ⟨[u1, u2], rfl, Rd.fresh w #[u1, u2] 25 1 2 rfl (by decide), fun i h h' => ?_⟩
  match i, h with
  | 0, _ => exact h1.below hb
  | 1, _ => exact h2.below hb
set_option maxRecDepth 100000 in
set_option maxHeartbeats 4000000 in
theorem both_any (va vb : Value) (av bv : List EV) (w : World) (ha : EvAt w va av) (hb : EvAt w vb bv) (hoka : ∀ x ∈ av, okE x) (hokb : ∀ x ∈ bv, okE x) (hla : av.length ≤ 32) (hlb : bv.length ≤ 32) :
    Calls Try.prog 54 #[va, vb] w fun e w' => ∃ L Ba v, e = .returned (.func (.func 85) #[] #[.pointer (some ⟨Ba, 0, none⟩)]) ∧ L.Perm (bothL av bv) ∧ Asc L ∧ w.heap.size ≤ Ba ∧ w'.heap[Ba]? = some (.cells #[v] 25 (0, 0)) ∧ Rd w' (· = 36) 3 v L.length (evC L) ∧ Below w.heap.size w w' := by
  obtain ⟨a, c, rfl, _, _⟩ := ha.form
  have HW := hidep (without_any vb (.slice a av.length c) bv av w hb ha (by omega))
  obtain ⟨b, cb, rfl, _, _⟩ := hb.form
  have hone := evC_one w av ha.2
  have hokl : ∀ x ∈ bothL av bv, okE x := fun x hx => by
    rcases List.mem_append.1 hx with h | h
    · exact hoka x h
    · exact hokb x (List.mem_filter.1 h).1
  have hfl : (bv.filter fun x => !memB (av.map (·.1)) x.1).length ≤ 32 := Nat.le_trans (List.length_filter_le _ _) hlb
  have HC := hidep (fun W u (hB : Below w.heap.size w W) (hu : EvAt W u (bv.filter fun x => !memB (av.map (·.1)) x.1)) =>
    concatE_any _ _ _ (lit2_ev (u1 := .slice a av.length c) (u2 := u) (a := av) ⟨(ha.1).below hB, hone⟩ ⟨hu.1, evC_one W _ hu.2⟩) (by unfold totalE; simp; omega))
  have hlen : (bothL av bv).length ≤ 64 := by unfold bothL; rw [List.length_append]; omega
  have hflat : ([av, bv.filter fun x => !memB (av.map (·.1)) x.1] : List (List EV)).flatten = bothL av bv := by simp [bothL]
  rw [hflat] at HC
  have HS := hidep (fun base v W ho => sortE_any (bothL av bv) hokl base v W ho (by omega))
  clear ha hb hone hokl hoka hokb hflat
  generalize bothL av bv = L at *
  generalize (bv.filter fun x => !memB (av.map (·.1)) x.1) = R at *
  go_enter Try.func54, Try.ntmps54
  go_wp2_with (first
    | (go_at_call 43; refine HW.out.mono ?_; rintro e w1 ⟨u, rfl, hu, hb1⟩; have HU := hidep hu; obtain ⟨au, cu, rfl, _, _⟩ := hu.form; clear hu)
    | (go_at_call 72; refine (HC.out _ _ hb1 HU.out).mono ?_; rintro e w2 ⟨v2, rfl, ho2, hb2⟩; have HO := hidep ho2; obtain ⟨a2, c2, rfl, _, _⟩ := (Rd.of_own ho2).form; clear ho2)
    | (go_at_call 73; refine (HS.out _ _ _ HO.out).mono ?_; rintro e w3 ⟨rfl, L', hp, hasc, ho3, hgr⟩)
    | (go_at_call 75; refine (values_any _ _ _ _).mono ?_; rintro e w4 ⟨rfl, rfl⟩)
    | fail)
  go_ret
  have hx2 : Below w.heap.size w w2 := (hb1.alloc hb1.size _).trans (hb2.mono (by have := hb1.size; simp; omega))
  have hx3 : Below w.heap.size w w3 := hx2.grown hgr hx2.size (fun k hk => by have := (HO.out.lt k hk).1; have := hb1.size; simp at *; omega)
  have hl : L'.length = L.length := hp.length_eq
  rw [hl] at ho3
  exact ⟨L', _, _, rfl, hp, hasc, hx3.size, heap_alloc_new w3 _, by rw [hl]; exact (Rd.of_own ho3).below ((Below.refl _ _).alloc (Nat.le_refl _) _), hx3.alloc hx3.size _⟩
end Go.Proofs.Ythdafajhohdkoaa
