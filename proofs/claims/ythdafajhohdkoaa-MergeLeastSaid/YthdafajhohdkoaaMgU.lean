/- The examples of the section (lives), part one: texts and edits of strings; what the functions return at them. -/
import Derived.Test.YthdafajhohdkoaaRefC
import Derived.Test.YthdafajhohdkoaaMgP
import Derived.Test.YthdafajhohdkoaaMgR
import Derived.Test.YthdafajhohdkoaaMgT
namespace Go.Proofs.Ythdafajhohdkoaa
open Go.RowKit Go.Lab
def ofStr (s : ByteArray) : List Sym := (bytesL s).map (Sym.mk 0)
set_option maxHeartbeats 1000000 in
theorem lawText_any (s : ByteArray) (w : World) (hs : s.size ≤ 1000) :
    Calls Try.prog 33 #[.string s] w fun e w' => ∃ u, e = .returned u ∧ w'.ownsRow w.heap.size 34 2 u (ofStr s).length (symsC (ofStr s)) ∧ Below w.heap.size w w' := by
  have HE : Hid (addP [] 0 (bytesL s) s.size = ofStr s) := hidep (by unfold addP ofStr; rw [List.take_of_length_le (by rw [bytesL_len]; exact Nat.le_refl _), List.nil_append])
  go_enter Try.func33, Try.ntmps33
  go_wp2
  go_loopg [3, 4] s.size (fun g o i wl => ∃ j : Nat, j ≤ s.size ∧ s.size - j = g ∧ i = .int .i64 j ∧
      wl.ownsRow w.heap.size 34 2 o (addP [] 0 (bytesL s) j).length (symsC (addP [] 0 (bytesL s) j)) ∧ Below w.heap.size w wl)
  case atStart => exact ⟨0, by omega, by omega, rfl, by rw [addP_zero]; exact World.ownsRow_nil _ _ _ _, Below.refl _ _⟩
  case round =>
    obtain ⟨j, hj1, hj3, rfl, hol, hbl⟩ := hrel
    have HJ := hidep hj3
    clear hj3
    have HL : Hid (∀ j, j ≤ s.size → (addP [] 0 (bytesL s) j).length = j) := hidep (fun j hj => by rw [addP_len (by rw [bytesL_len]; exact hj)]; simp)
    have hsz2 := hbl.size
    rw [HL.out j hj1] at hol
    obtain ⟨a2, cap2, rfl, hc2, hm2⟩ := (Rd.of_own hol).form
    unfold maxLen at hm2
    by_cases hj4 : j < s.size
    · have hfr := Rd.fresh wr #[.int .i64 0, .int .u8 ((s[j]'hj4).toNat)] 34 2 1 rfl (by decide)
      have HA : Hid (symsC (addP [] 0 (bytesL s) (j + 1)) = symsC (addP [] 0 (bytesL s) j) ++ [.int .i64 0, .int .u8 ((s[j]'hj4).toNat)]) :=
        hidep (by rw [addP_succ (by rw [bytesL_len]; exact hj4), symsC_append, symsC_one_, bytesL_get])
      go_wp2_with (at_builtin; refine wpList_append_rd _ rfl (.tmp 11) (.tmp 16) rfl slSyms w.heap.size (.slice a2 j cap2) _ _ rfl (hol.alloc _) _ _ _ _ rfl hfr (by intro u hu; simp at hu; rcases hu with rfl | rfl <;> rfl) (by unfold maxLen; omega) (by omega) (by simp; omega) ?_; intro v2 w2 hown2 hgr2 _ _; clear hfr)
      go_roundg (s.size - (j + 1))
      case measure => have := HJ.out; omega
      case rel => exact ⟨j + 1, by omega, rfl, by go_num, by rw [HL.out _ (by omega), HA.out]; exact hown2, (hbl.alloc hsz2 _).grown hgr2 (by simp; omega) (fun g hg => (hol.lt g hg).1)⟩
    · have hj6 : (s.size : Int) ≤ j := by omega
      have he : j = s.size := by omega
      have HX : Hid (wr.ownsRow w.heap.size 34 2 (.slice a2 j cap2) (ofStr s).length (symsC (ofStr s))) := hidep (by
        rw [← HE.out, HL.out _ (Nat.le_refl _), ← he]; exact hol)
      clear he
      go_wp2
      go_ret
      exact ⟨_, rfl, HX.out, hbl⟩
theorem editsAt_1 (w : World) (p d : Int) (u : Value) (ins : List Sym) (hu : SymsAt w u ins) :
    EditsAt (w.alloc (.cells #[.int .i64 p, .int .i64 d, u] 36)) (.slice (some ⟨w.heap.size, 0, none⟩) 1 1) [⟨p, d, ins⟩] := by
  refine ⟨[u], rfl, Rd.fresh w #[.int .i64 p, .int .i64 d, u] 36 3 1 rfl (by decide), fun i h h' => ?_⟩
  have : i = 0 := by simp at h; omega
  subst this
  exact hu.below ((Below.refl _ _).alloc (Nat.le_refl _) _)
theorem editsAt_2 (w : World) (p d q e : Int) (u v : Value) (ins jns : List Sym) (hu : SymsAt w u ins) (hv : SymsAt w v jns) :
    EditsAt (w.alloc (.cells #[.int .i64 p, .int .i64 d, u, .int .i64 q, .int .i64 e, v] 36)) (.slice (some ⟨w.heap.size, 0, none⟩) 2 2) [⟨p, d, ins⟩, ⟨q, e, jns⟩] := by
  refine ⟨[u, v], rfl, Rd.fresh w #[.int .i64 p, .int .i64 d, u, .int .i64 q, .int .i64 e, v] 36 3 2 rfl (by decide), fun i h h' => ?_⟩
  have h2 : i = 0 ∨ i = 1 := by simp at h; omega
  rcases h2 with rfl | rfl
  · exact hu.below ((Below.refl _ _).alloc (Nat.le_refl _) _)
  · exact hv.below ((Below.refl _ _).alloc (Nat.le_refl _) _)
theorem results_cell1 {fn : Func} {p : Tmp} {t1 : TypeId} (h : fn.results = #[.cell p t1]) (tmps : Array Value) (P : Program) (w : World) {b1 : Addr} {v1 : Value}
    (e1 : tmps.getD p undef = .pointer (some b1)) (l1 : (loadVar t1 b1).run P w = .ok v1 w) : (results fn tmps).run P w = .ok v1 w := by
  have e1' : tmps[p]?.getD undef = .pointer (some b1) := by simpa using e1
  simp only [results, h]
  simp [e1', l1, asAddr]
set_option maxRecDepth 100000 in
set_option maxHeartbeats 1000000 in
theorem lawEdit_any (p d : Int) (s : ByteArray) (w : World) (hs : s.size ≤ 1000) :
    Calls Try.prog 34 #[.int .i64 p, .int .i64 d, .string s] w fun e w' => ∃ a c, e = .returned (.agg #[.int .i64 p, .int .i64 d, .slice a (ofStr s).length c]) ∧ SymsAt w' (.slice a (ofStr s).length c) (ofStr s) ∧ Below w.heap.size w w' := by
  have hbo : Below w.heap.size w (w.alloc (.cells #[.int .i64 0, .int .i64 0, .slice none 0 0] 36)) := (Below.refl _ _).alloc (Nat.le_refl _) _
  have hn := heap_alloc_new w (.cells #[.int .i64 0, .int .i64 0, .slice none 0 0] 36)
  have HT : Hid (Calls Try.prog 33 #[.string s] (w.alloc (.cells #[.int .i64 0, .int .i64 0, .slice none 0 0] 36)) fun e w' => ∃ a c, e = .returned (.slice a (ofStr s).length c) ∧ SymsAt w' (.slice a (ofStr s).length c) (ofStr s) ∧ Below w.heap.size w w' ∧ w'.heap[w.heap.size]? = some (.cells #[.int .i64 0, .int .i64 0, .slice none 0 0] 36 (0, 0))) := hidep ((lawText_any s _ hs).mono (fun e w' ⟨u, he, ho, hb⟩ => by
    have h1 := SymsAt.of_own ho
    obtain ⟨a, c, rfl, _, _⟩ := h1.form
    exact ⟨a, c, he, h1, hbo.trans (hb.mono (by simp)), (hb.block _ (by simp)).trans hn⟩))
  clear hbo hn hs
  generalize ofStr s = L at *
  go_enter Try.func34, Try.ntmps34
  go_wp2_with fail
  refine HT.out.mono ?_
  rintro e w1 ⟨a, c, rfl, hs1, hb1, hx1⟩
  obtain ⟨q0, q1, q2⟩ := box3_cell hx1
  have f0 := box_free (o := 0) hx1
  have f1 := box_free (o := 1) hx1
  have f2 := box_free (o := 2) hx1
  go_wp2
  have HS : Hid (SymsAt (((w1.setCell ⟨w.heap.size, 0, none⟩ (.int .i64 p)).setCell ⟨w.heap.size, 1, none⟩ (.int .i64 d)).setCell ⟨w.heap.size, 2, none⟩ (.slice a L.length c)) (.slice a L.length c) L ∧ Below w.heap.size w (((w1.setCell ⟨w.heap.size, 0, none⟩ (.int .i64 p)).setCell ⟨w.heap.size, 1, none⟩ (.int .i64 d)).setCell ⟨w.heap.size, 2, none⟩ (.slice a L.length c))) := by
    have hne : ∀ {b : Nat} {cur : Array Value} {fz : Nat × Nat}, w1.heap[b]? = some (.cells cur 34 fz) → b ≠ w.heap.size := fun h e => by subst e; rw [h] at hx1; simp at hx1
    refine hidep ⟨hs1.keeps (T := fun t => t = 34) ⟨by simp [World.setCell], fun b cur t fz ht hb => ?_⟩ rfl, ((hb1.setCell (p := ⟨w.heap.size, 0, none⟩) (Nat.le_refl _) _).setCell (p := ⟨w.heap.size, 1, none⟩) (Nat.le_refl _) _).setCell (p := ⟨w.heap.size, 2, none⟩) (Nat.le_refl _) _⟩
    subst ht
    rw [Below.heap_setCell _ _ _ _ (hne hb), Below.heap_setCell _ _ _ _ (hne hb), Below.heap_setCell _ _ _ _ (hne hb)]
    exact hb
  have hl := lt_of_block hx1
  refine bodyPost_ret (results_cell1 rfl _ _ _ rfl (v1 := .agg #[.int .i64 p, .int .i64 d, .slice a L.length c]) (by go_simp)) rfl ?_
  exact ⟨a, c, rfl, HS.out.1, HS.out.2⟩
def lBase : List Sym := [⟨0, 97⟩, ⟨0, 98⟩, ⟨0, 99⟩, ⟨0, 100⟩, ⟨0, 101⟩, ⟨0, 102⟩]
def lOut : List Sym := [⟨0, 97⟩, ⟨0, 88⟩, ⟨0, 99⟩, ⟨0, 121⟩, ⟨0, 121⟩, ⟨0, 100⟩, ⟨0, 101⟩]
def lA : List Edit := [⟨1, 1, [⟨0, 88⟩]⟩]
def lB : List Edit := [⟨3, 0, [⟨0, 121⟩, ⟨0, 121⟩]⟩, ⟨5, 1, []⟩]
def lC : List Edit := [⟨2, 0, [⟨0, 122⟩]⟩]
def lD : List Edit := [⟨1, 0, [⟨0, 122⟩, ⟨0, 122⟩]⟩]
def lE : List Edit := [⟨0, 1, [⟨0, 122⟩, ⟨0, 122⟩, ⟨0, 122⟩]⟩]
def lM : List Edit := [⟨5, 0, [⟨0, 121⟩, ⟨0, 121⟩]⟩, ⟨7, 1, []⟩]
def lK : List (Nat × Nat) := [(0, 0), (2, 2), (3, 5), (4, 6)]
theorem ex_merge : mergeZ lBase lA lB = (lOut, lK, 0) := by decide
theorem ex_clash : clashZ lA lC = [(0, 0)] := by decide
theorem ex_move1 : moveZ lB lA = (lB, 0) := by decide
theorem ex_move2 : (moveZ lA lD).2 = 18 := by decide
theorem ex_move3 : moveZ lB lE = (lM, 0) := by decide
end Go.Proofs.Ythdafajhohdkoaa
