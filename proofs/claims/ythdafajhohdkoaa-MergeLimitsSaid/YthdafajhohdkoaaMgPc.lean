/- Contract of the reference of package merge: the edit that begins at a place; plain: the text place by place. -/
import Derived.Test.YthdafajhohdkoaaMgQ
namespace Go.Proofs.Ythdafajhohdkoaa
open Go.RowKit Go.Lab
/-- The edit that begins at a place. -/
def findE (l : List Edit) (p : Int) : Option Edit := l.find? fun e => decide (e.pos = p)
theorem box_free0 {w : World} {b o : Nat} {cs : Array Value} {t : TypeId} (h : w.heap[b]? = some (.cells cs t (0, 0))) : w.frozen? ⟨b, o, none⟩ = false := by simp [World.frozen?, h]
def zeroE : Edit := ⟨0, 0, []⟩
theorem findE_step {l : List Edit} {p : Int} {k : Nat} (h : k < l.length) : findE (l.drop k) p = if l[k].pos = p then some l[k] else findE (l.drop (k + 1)) p := by
  unfold findE
  rw [List.drop_eq_getElem_cons h, List.find?_cons]
  by_cases hp : l[k].pos = p
  · rw [decide_eq_true hp, if_pos hp]
  · rw [decide_eq_false hp, if_neg hp]
theorem results_ct {fn : Func} {p q : Tmp} {t1 : TypeId} (h : fn.results = #[.cell p t1, .tmp q]) (tmps : Array Value) (P : Program) (w : World) {b1 : Addr} {v1 v2 : Value}
    (e1 : tmps.getD p undef = .pointer (some b1)) (l1 : (loadVar t1 b1).run P w = .ok v1 w) (e2 : tmps.getD q undef = v2) : (results fn tmps).run P w = .ok (.tuple #[v1, v2]) w := by
  have e1' : tmps[p]?.getD undef = .pointer (some b1) := by simpa using e1
  have e2' : tmps[q]?.getD undef = v2 := by simpa using e2
  simp only [results, h]
  simp [Result.andThen, e1', e2', l1, asAddr]
set_option maxRecDepth 100000 in
set_option maxHeartbeats 1000000 in
theorem at34_any (v : Value) (l : List Edit) (p : Int) (w : World) (h : EditsAt w v l) :
    Calls Try.prog 51 #[v, .int .i64 p] w fun e w' => ∃ u, e = .returned (.tuple #[editV ((findE l p).getD zeroE) u, .bool (findE l p).isSome]) ∧ SymsAt w' u ((findE l p).getD zeroE).ins ∧ Below w.heap.size w w' := by
  obtain ⟨a, cap, rfl, h2, h3⟩ := h.form
  unfold maxLen at h3
  have hbo : Below w.heap.size w (w.alloc (.cells #[.int .i64 0, .int .i64 0, .slice none 0 0] 36)) := (Below.refl _ _).alloc (Nat.le_refl _) _
  have hn0 := heap_alloc_new w (.cells #[.int .i64 0, .int .i64 0, .slice none 0 0] 36)
  have HN := hidep hn0
  have HBO := hidep hbo
  clear hn0 hbo
  go_enter Try.func51, Try.ntmps51
  go_wp2
  go_loopw [6] (fun i wr => ∃ k : Nat, k ≤ l.length ∧ i = .int .i64 k ∧ Hid (findE l p = findE (l.drop k) p) ∧ Below (w.alloc (.cells #[.int .i64 0, .int .i64 0, .slice none 0 0] 36)).heap.size (w.alloc (.cells #[.int .i64 0, .int .i64 0, .slice none 0 0] 36)) wr) (fun i _ => l.length - (intOf i).toNat)
  case atStart => exact ⟨0, Nat.zero_le _, rfl, hidep rfl, Below.refl _ _⟩
  case round =>
    obtain ⟨k, hk, rfl, he, hbi⟩ := hrel
    have hbw := HBO.out.trans (hbi.mono (by simp))
    have h4 := (hbi.block _ (by simp)).trans HN.out
    have h4l := lt_of_block h4
    obtain ⟨q0, q1, q2⟩ := box3_cell h4
    have f0 := box_free0 (o := 0) h4
    have f1 := box_free0 (o := 1) h4
    have f2 := box_free0 (o := 2) h4
    by_cases hlt : k < l.length
    · obtain ⟨b, off, u, n1, c1, rfl, hb, hc0, hc1, hc2, hs⟩ := edits_get (h.below hbw) hlt
      have HE := hidep (he.out.trans (findE_step (p := p) hlt))
      clear h he
      generalize l[k] = x at *
      obtain ⟨pp, d, ins⟩ := x
      simp only at hc0 hc1 hs HE
      have hI : 0 ≤ (k : Int) := by omega
      have hI1 : (k : Int) < (l.length : Int) := by omega
      obtain ⟨wo, hwo⟩ : ∃ wo : World, wo = wr := ⟨_, rfl⟩
      subst hwo
      by_cases hp : pp = p
      · subst hp
        rw [if_pos rfl] at HE
        have HBI := hidep hbi
        have HBW := hidep hbw
        have HS := hidep hs
        have H4 := hidep h4
        clear hs hbi hbw h4
        generalize hB8 : w.heap.size = b8 at *
        go_wp2
        refine bodyPost_ret (results_ct rfl _ _ _ rfl (v1 := .agg #[.int .i64 pp, .int .i64 d, .slice u n1 c1]) (v2 := .bool true) (by go_simp) (by go_simp)) rfl ?_
        have hk3 : Keeps (fun t => t = 34) wo (((wo.setCell ⟨b8, 0, none⟩ (.int .i64 pp)).setCell ⟨b8, 1, none⟩ (.int .i64 d)).setCell ⟨b8, 2, none⟩ (.slice u n1 c1)) := by
          have hne : ∀ {b : Nat} {cur : Array Value} {fz : Nat × Nat}, wo.heap[b]? = some (.cells cur 34 fz) → b ≠ b8 := fun h e => by have h4 := H4.out; subst e; rw [h] at h4; simp at h4
          refine ⟨by simp [World.setCell], fun b cur t fz ht hb => ?_⟩
          subst ht
          rw [Below.heap_setCell _ _ _ _ (hne hb), Below.heap_setCell _ _ _ _ (hne hb), Below.heap_setCell _ _ _ _ (hne hb)]
          exact hb
        exact ⟨_, by rw [HE.out]; rfl, by rw [HE.out]; exact SymsAt.keeps HS.out hk3 rfl, by rw [hB8]; exact ((HBW.out.setCell (p := ⟨b8, 0, none⟩) (Nat.le_refl _) _).setCell (p := ⟨b8, 1, none⟩) (Nat.le_refl _) _).setCell (p := ⟨b8, 2, none⟩) (Nat.le_refl _) _⟩
      · rw [if_neg hp] at HE
        go_wp2
        go_roundw
        case rel => exact ⟨k + 1, by omega, by go_num, HE, hbi⟩
        case measure => simp [intOf]; omega
    · have hkl : k = l.length := by omega
      have HE : Hid (findE l p = none) := hidep (by rw [he.out, hkl]; simp [findE])
      have HBW := hidep hbw
      have H4 := hidep h4
      clear hbw h4
      generalize hB8 : w.heap.size = b8 at *
      go_wp2
      refine bodyPost_ret (results_ct rfl _ _ _ rfl (v1 := .agg #[.int .i64 0, .int .i64 0, .slice none 0 0]) (v2 := .bool false) (by go_simp) (by go_simp)) rfl ?_
      exact ⟨_, by rw [HE.out]; rfl, by rw [HE.out]; exact SymsAt.nil _, by rw [hB8]; exact ((HBW.out.setCell (p := ⟨b8, 0, none⟩) (Nat.le_refl _) _).setCell (p := ⟨b8, 1, none⟩) (Nat.le_refl _) _).setCell (p := ⟨b8, 2, none⟩) (Nat.le_refl _) _⟩
end Go.Proofs.Ythdafajhohdkoaa
