/- A region that draws its order and whose last operations (the list D) store into what it has loaded: S need not hold behind these. No program in sight. -/
import Derived.Test.YtcfjepcflanjbaaGreatBr01
import Derived.Test.YtcfjepcflanjbaaGreatRows
namespace Go.Lab
open Go
section
variable {P : Program} {ops : Array Oper} {Q : Exit -> Act -> World -> Prop} {md : Region.Mode} {S : World -> Prop} {D : List Nat}
def zq56 (P : Program) (md : Region.Mode) (ops : Array Oper) (Q : Exit -> Act -> World -> Prop) (S : World -> Prop) (D : List Nat) : Nat -> Array Bool -> Act -> World -> Prop
  | 0, listed, a, w => Region.ready md ops listed = [] /\ Q .normal a w
  | fuel + 1, listed, a, w => (Region.ready md ops listed = [] -> Q .normal a w) /\
    ∀ i ∈ Region.ready md ops listed, wpOp P ops Q i (fun a' w' => if D.contains i = true then wpAny P md ops Q fuel (listed.setIfInBounds i true) a' w' else S w' /\ zq56 P md ops Q S D fuel (listed.setIfInBounds i true) a' w') a w
theorem wpAny_of_D : ∀ (fuel : Nat) (listed : Array Bool) (a : Act) (w : World), zq56 P md ops Q S D fuel listed a w -> wpAny P md ops Q fuel listed a w
  | 0, _, _, _, h => h
  | fuel + 1, _, _, _, h => ⟨h.1, fun i hi => wpOp_mono (fun a' w' h' => by
      by_cases hD : D.contains i = true
      · rw [if_pos hD] at h'; exact h'
      · rw [if_neg hD] at h'; exact wpAny_of_D fuel _ a' w' h'.2) (h.2 i hi)⟩
def Closed (md : Region.Mode) (ops : Array Oper) (listed : Array Bool) : Prop := ∀ j oj, ops[j]? = some oj -> listed.getD j false = true -> ∀ e ∈ oj.after, Region.binds md e = true -> listed.getD e.on false = true
def closedB (md : Region.Mode) (ops : Array Oper) (listed : Array Bool) : Bool := (List.range ops.size).all fun j => !(listed.getD j false) || (match ops[j]? with | some o => o.after.all (fun e => !(Region.binds md e) || listed.getD e.on false) | none => true)
theorem closedB_spec {listed : Array Bool} (h : closedB md ops listed = true) : Closed md ops listed := by
  intro j oj hoj hl e he hb
  have hlt : j < ops.size := (Array.getElem?_eq_some_iff.1 hoj).1
  have h1 := List.all_eq_true.1 h j (List.mem_range.2 hlt)
  rw [hl, hoj] at h1
  have h2 : oj.after.all (fun e => !(Region.binds md e) || listed.getD e.on false) = true := by simpa using h1
  have h3 := Array.all_eq_true_iff_forall_mem.1 h2 e he
  rw [hb] at h3
  simpa using h3
theorem Closed.set {listed : Array Bool} (h : Closed md ops listed) {i : Nat} (hi : i ∈ Region.ready md ops listed) : Closed md ops (listed.setIfInBounds i true) := by
  intro j oj hoj hl e he hb
  by_cases hj : j = i
  · subst hj
    obtain ⟨_, o, ho, hall⟩ := mem_ready.1 hi
    rw [hoj] at ho
    injection ho with ho
    subst ho
    exact getD_set_true (hall e he hb)
  · rw [getD_set_ne false (Ne.symm hj)] at hl
    exact getD_set_true (h j oj hoj hl e he hb)
def waits (md : Region.Mode) (ops : Array Oper) : Nat -> Nat -> Nat -> Bool
  | 0, _, _ => false
  | f + 1, i, j => match ops[j]? with
    | some o => o.after.any (fun e => Region.binds md e && e.on == i) || o.after.any (fun e => Region.binds md e && waits md ops f i e.on)
    | none => false
theorem waits_listed {listed : Array Bool} (h : Closed md ops listed) {i : Nat} : ∀ (f j : Nat) (oj : Oper), ops[j]? = some oj -> (∀ e ∈ oj.after, Region.binds md e = true -> listed.getD e.on false = true) -> waits md ops f i j = true -> listed.getD i false = true
  | 0, _, _, _, _, hw => by simp [waits] at hw
  | f + 1, j, oj, hoj, hall, hw => by
    rw [waits, hoj] at hw
    simp only [Bool.or_eq_true] at hw
    rcases hw with hw | hw
    · obtain ⟨k, hk, e⟩ := Array.any_iff_exists.1 hw
      rw [Bool.and_eq_true] at e
      have h1 := hall _ (Array.getElem_mem _) e.2.2.1
      have h2 := e.2.2.2
      simp only [beq_iff_eq] at h2
      rwa [h2] at h1
    · obtain ⟨k, hk, e⟩ := Array.any_iff_exists.1 hw
      rw [Bool.and_eq_true] at e
      have h1 := hall _ (Array.getElem_mem _) e.2.2.1
      have h2 := e.2.2.2
      cases hq : ops[(oj.after[k]'hk).on]? with
      | none =>
        cases f with
        | zero => simp [waits] at h2
        | succ f => rw [waits, hq] at h2; cases h2
      | some o' => exact waits_listed h f _ o' hq (fun e' he' hb' => h _ o' hq h1 e' he' hb') h2
theorem not_listed_ready {listed : Array Bool} {i : Nat} (hi : i ∈ Region.ready md ops listed) (h : listed.getD i false = true) : False := by
  have h0 := (mem_ready.1 hi).1
  rcases Nat.lt_or_ge i listed.size with h' | h'
  · simp [h'] at h0 h; rw [h0] at h; cases h
  · simp [Array.getElem?_eq_none h'] at h
theorem wpAnyD_first {i : Nat} {oi : Oper} {v : Value} (hi : ops[i]? = some oi) (hsel : ∀ (j : Nat) (o : Oper) cs b, ops[j]? = some o -> o.op ≠ .select cs b)
    (hQ : ∀ c a w, Q (.panic c) (a.put oi.dst v) w -> Q (.panic c) a w) (hDi : ¬ D.contains i = true)
    (hcl : ∀ j, D.contains j = true -> waits md ops 8 i j = true) :
    ∀ (fuel : Nat) (listed : Array Bool) (a : Act) (w : World), Closed md ops listed ->
      (∀ j oj, ops[j]? = some oj -> j ≠ i -> listed.getD j true = false -> (∀ e ∈ oj.after, Region.binds md e = true -> e.on ≠ i) -> oi.apart ops oj = true) ->
      i ∈ Region.ready md ops listed -> YieldsIf P ops S oi v a -> S w ->
      zq56 P md ops Q S D fuel (listed.setIfInBounds i true) (a.put oi.dst v) w -> zq56 P md ops Q S D (fuel + 1) listed a w := by
  intro fuel
  induction fuel with
  | zero =>
    intro listed a w _ _ hr hy hS H
    refine ⟨fun h => (by rw [h] at hr; cases hr), fun j hj => ?_⟩
    by_cases hji : j = i
    · subst hji
      refine hy.wpOp hi hS ?_
      rw [if_neg hDi]
      exact ⟨hS, H⟩
    · have := ready_mono hj hji
      rw [H.1] at this
      cases this
  | succ fuel ih =>
    intro listed a w hcd hfree hr hy hS H
    refine ⟨fun h => (by rw [h] at hr; cases hr), fun j hj => ?_⟩
    by_cases hji : j = i
    · subst hji
      refine hy.wpOp hi hS ?_
      rw [if_neg hDi]
      exact ⟨hS, H⟩
    · have h1 := H.2 j (ready_mono hj hji)
      obtain ⟨hjun, oj, hoj, hall⟩ := mem_ready.1 hj
      have hnot : ∀ e ∈ oj.after, Region.binds md e = true -> e.on ≠ i := fun e he hb heq => by
        have h1 := hall e he hb
        have h0 := (mem_ready.1 hr).1
        rw [heq] at h1
        rcases Nat.lt_or_ge i listed.size with h' | h'
        · simp [h'] at h0 h1; rw [h0] at h1; cases h1
        · simp [Array.getElem?_eq_none h'] at h1
      have hDj : ¬ D.contains j = true := fun hD => not_listed_ready hr (waits_listed hcd 8 j oj hoj hall (hcl j hD))
      have h2 := wpOp_putIf hoj (hfree j oj hoj hji hjun hnot) (fun cs b => hsel i oi cs b hi) (fun cs b => hsel j oj cs b hoj) hQ hy h1
      have hfree' : ∀ k ok, ops[k]? = some ok -> k ≠ i -> (listed.setIfInBounds j true).getD k true = false ->
          (∀ e ∈ ok.after, Region.binds md e = true -> e.on ≠ i) -> oi.apart ops ok = true := fun k ok hk hki hun hno => by
        refine hfree k ok hk hki ?_ hno
        by_cases hjk : j = k
        · subst hjk; exact hjun
        · rw [getD_set_ne true hjk] at hun; exact hun
      refine wpOp_mono (fun a' w' h3 => ?_) h2
      rw [if_neg hDj] at h3 ⊢
      refine ⟨h3.2.1, ih (listed.setIfInBounds j true) a' w' (hcd.set hj) hfree' (ready_mono hr (Ne.symm hji)) h3.1 h3.2.1 ?_⟩
      rw [Array.setIfInBounds_comm _ _ hji]
      exact h3.2.2
def zqa4 (md : Region.Mode) (ops : Array Oper) (D : List Nat) (listed : Array Bool) (i : Nat) : Bool := !D.contains i && (D.all (fun j => waits md ops 8 i j) && closedB md ops listed)
theorem zq82 {i : Nat} {listed : Array Bool} (h : zqa4 md ops D listed i = true) : ¬ D.contains i = true /\ (∀ j, D.contains j = true -> waits md ops 8 i j = true) /\ Closed md ops listed := by
  unfold zqa4 at h
  rw [Bool.and_eq_true, Bool.and_eq_true] at h
  exact ⟨by simpa using h.1, fun j hj => List.all_eq_true.1 h.2.1 j (by simpa using hj), closedB_spec h.2.2⟩
theorem wpAnyD_take {i : Nat} {oi : Oper} {v : Value} {fuel : Nat} {listed : Array Bool} {a : Act} {w : World} (hi : ops[i]? = some oi)
    (hs : Region.noSelect ops = true) (hf : Region.free md ops listed i = true) (hr : (Region.ready md ops listed).contains i = true)
    (hQ : ∀ c a w, Q (.panic c) (a.put oi.dst v) w -> Q (.panic c) a w) (hy : YieldsIf P ops S oi v a) (hS : S w) (hc : zqa4 md ops D listed i = true)
    (h : zq56 P md ops Q S D fuel (listed.setIfInBounds i true) (a.put oi.dst v) w) : zq56 P md ops Q S D (fuel + 1) listed a w :=
  wpAnyD_first hi (Region.noSelect_spec hs) hQ (zq82 hc).1 (zq82 hc).2.1 fuel listed a w (zq82 hc).2.2 (Region.free_spec hi hf) (by simpa using hr) hy hS h
def AllReadyD (P : Program) (md : Region.Mode) (ops : Array Oper) (Q : Exit -> Act -> World -> Prop) (S : World -> Prop) (D : List Nat) (fuel : Nat) (listed : Array Bool) (a : Act) (w : World) (rs : List Nat) : Prop :=
  ∀ i ∈ rs, wpOp P ops Q i (fun a' w' => if D.contains i = true then wpAny P md ops Q fuel (listed.setIfInBounds i true) a' w' else S w' /\ zq56 P md ops Q S D fuel (listed.setIfInBounds i true) a' w') a w
theorem AllReadyD.nil {fuel : Nat} {listed : Array Bool} {a : Act} {w : World} : AllReadyD P md ops Q S D fuel listed a w [] := fun _ h => by cases h
theorem AllReadyD.cons {fuel : Nat} {listed : Array Bool} {a : Act} {w : World} {i : Nat} {o : Oper} {rs : List Nat} (ho : ops[i]? = some o) (hD : D.contains i = false)
    (h : ∀ K' : Act -> World -> Prop, Shut (∀ a w, S w -> (S w -> zq56 P md ops Q S D fuel (listed.setIfInBounds i true) a w) -> K' a w) -> if Region.wanted o (yielded ops a.tmps) = true then Oper.wp P o a w K' Q else K' (a.put o.dst undef) w)
    (hs : AllReadyD P md ops Q S D fuel listed a w rs) : AllReadyD P md ops Q S D fuel listed a w (i :: rs) := fun j hj => by
  rcases List.mem_cons.1 hj with rfl | hj
  · exact wpOp_step ho (fun K' hK => h K' (fun a w hS hW => hK a w (by rw [if_neg (by rw [hD]; decide)]; exact ⟨hS, hW hS⟩)))
  · exact hs j hj
theorem AllReadyD.last {fuel : Nat} {listed : Array Bool} {a : Act} {w : World} {i : Nat} {o : Oper} {rs : List Nat} (ho : ops[i]? = some o) (hD : D.contains i = true)
    (h : ∀ K' : Act -> World -> Prop, Shut (∀ a w, wpAnyH P md ops Q (fun _ => True) fuel (listed.setIfInBounds i true) a w -> K' a w) -> if Region.wanted o (yielded ops a.tmps) = true then Oper.wp P o a w K' Q else K' (a.put o.dst undef) w)
    (hs : AllReadyD P md ops Q S D fuel listed a w rs) : AllReadyD P md ops Q S D fuel listed a w (i :: rs) := fun j hj => by
  rcases List.mem_cons.1 hj with rfl | hj
  · exact wpOp_step ho (fun K' hK => h K' (fun a w hW => hK a w (by rw [if_pos hD]; exact wpAny_of_held _ _ _ _ hW)))
  · exact hs j hj
theorem zq16 {rs : List Nat} {fuel : Nat} {listed : Array Bool} {a : Act} {w : World} (hr : Region.ready md ops listed = rs) (hne : rs ≠ [])
    (h : AllReadyD P md ops Q S D fuel listed a w rs) : zq56 P md ops Q S D (fuel + 1) listed a w := ⟨fun h0 => absurd (hr ▸ h0) hne, hr ▸ h⟩
theorem zq3c (D : List Nat) {id : Nat} {a : Act} {w : World} (hm : P.follows .mixedOrders = true) (hS : S w.drew)
    (h : S w.drew -> zq56 P .any ops Q S D ops.size (Array.replicate ops.size false) a w.drew) : (Code.region id ops true).wp P Q a w :=
  wp_region_any hm (wpAny_of_D _ _ _ _ (h hS))
end
end Go.Lab
/- Short laws for regions that draw their order (genreg.py with BRIEF=1). No program in sight. -/
namespace Go.Lab
open Go
section
variable {P : Program} {ops : Array Oper} {Q : Exit -> Act -> World -> Prop} {md : Region.Mode} {S : World -> Prop} {D : List Nat} {oi : Oper} {v : Value} {fuel : Nat} {listed : Array Bool} {a : Act} {w : World}
theorem tkB (i : Nat) (hi : ops[i]? = some oi) (hy : YieldsIf P ops S oi v a) (h : wpAnyH P md ops Q S fuel (listed.setIfInBounds i true) (a.put oi.dst v) w) (hS : S w := by assumption) (hs : Region.noSelect ops = true := by kernel_rfl) (hf : Region.free md ops listed i = true := by kernel_rfl)
    (hr : (Region.ready md ops listed).contains i = true := by kernel_rfl) (hQ : ∀ c a w, Q (.panic c) (a.put oi.dst v) w -> Q (.panic c) a w := by exact fun _ _ _ h => h) : wpAnyH P md ops Q S (fuel + 1) listed a w := wpAnyH_take hi hs hf hr hQ hy hS h
theorem tkC (i : Nat) (hi : ops[i]? = some oi) (h : wpAnyH P md ops Q S fuel (listed.setIfInBounds i true) (a.put oi.dst v) w) (hw : Region.wanted oi (yielded ops a.tmps) = true := by kernel_rfl) (hy : ∀ w, S w -> (execOp a.eval oi).run P w = .ok (.value v) w := by intro w hSw; go_simp; first | done | with_reducible rfl) (hS : S w := by assumption)
    (hs : Region.noSelect ops = true := by kernel_rfl) (hf : Region.free md ops listed i = true := by kernel_rfl) (hr : (Region.ready md ops listed).contains i = true := by kernel_rfl) (hQ : ∀ c a w, Q (.panic c) (a.put oi.dst v) w -> Q (.panic c) a w := by exact fun _ _ _ h => h) : wpAnyH P md ops Q S (fuel + 1) listed a w := wpAnyH_take hi hs hf hr hQ (.inl ⟨hw, hy⟩) hS h
theorem tkD (i : Nat) (hi : ops[i]? = some oi) (hy : YieldsIf P ops S oi v a) (h : zq56 P md ops Q S D fuel (listed.setIfInBounds i true) (a.put oi.dst v) w) (hS : S w := by assumption) (hs : Region.noSelect ops = true := by kernel_rfl) (hf : Region.free md ops listed i = true := by kernel_rfl)
    (hr : (Region.ready md ops listed).contains i = true := by kernel_rfl) (hQ : ∀ c a w, Q (.panic c) (a.put oi.dst v) w -> Q (.panic c) a w := by exact fun _ _ _ h => h) (hc : zqa4 md ops D listed i = true := by kernel_rfl) : zq56 P md ops Q S D (fuel + 1) listed a w := wpAnyD_take hi hs hf hr hQ hy hS hc h
end
theorem zq1e {t : Array Value} {n : Nat} (h : t.size = n) : t = ((List.range n).map (slot t)).toArray := by
  apply Array.ext
  · simp [h]
  · intro i h1 h2
    simp [slot, Array.getD, h1]
end Go.Lab
/- Texts and edits as plain data, how their cells read, and the element types of the slices that the code appends to. -/
namespace Go.Proofs.YtcfjepcflanjbaaGreat
open Go.RowKit Go.Lab
structure Sym where
  lang : Int
  c : Int
  deriving DecidableEq
structure Edit where
  pos : Int
  del : Int
  ins : List Sym
  deriving DecidableEq

def symC (s : Sym) : List Value := [.int .i64 s.lang, .int .u8 s.c]
def symsC (l : List Sym) : List Value := l.flatMap symC
theorem zq2c (a b : List Sym) : symsC (a ++ b) = symsC a ++ symsC b := by simp [symsC]
theorem symsC_one_ (s : Sym) : symsC [s] = [.int .i64 s.lang, .int .u8 s.c] := rfl
theorem zqbe (l : List Sym) : ∀ u ∈ symsC l, u.oneCell' = true := by
  intro u hu
  obtain ⟨x, _, hx⟩ := List.mem_flatMap.1 hu
  simp [symC] at hx
  rcases hx with rfl | rfl <;> rfl
theorem symsC_get (l : List Sym) (i : Nat) (h : i < l.length) : (symsC l)[i * 2]? = some (.int .i64 l[i].lang) /\ (symsC l)[i * 2 + 1]? = some (.int .u8 l[i].c) := by
  induction l generalizing i with
  | nil => simp at h
  | cons a l ih =>
    cases i with
    | zero => simp [symsC, symC]
    | succ i =>
      have := ih i (by simpa using h)
      have e : (i + 1) * 2 = i * 2 + 1 + 1 := by omega
      simpa [symsC, symC, e] using this
theorem symsC_drop (l : List Sym) (i : Nat) : (symsC l).drop (i * 2) = symsC (l.drop i) := by
  induction i generalizing l with
  | zero => simp
  | succ i ih =>
    cases l with
    | nil => simp [symsC]
    | cons a l =>
      have e : (i + 1) * 2 = i * 2 + 1 + 1 := by omega
      have := ih l
      simpa [symsC, symC, e] using this
theorem symsC_take (l : List Sym) (i : Nat) : (symsC l).take (i * 2) = symsC (l.take i) := by
  induction i generalizing l with
  | zero => simp [symsC]
  | succ i ih =>
    cases l with
    | nil => simp [symsC]
    | cons a l =>
      have e : (i + 1) * 2 = i * 2 + 1 + 1 := by omega
      have := ih l
      simpa [symsC, symC, e] using this
def SymsAt (w : World) (v : Value) (l : List Sym) : Prop := Rd w (· = 39) 2 v l.length (symsC l)
theorem SymsAt.keeps {w w' : World} {v : Value} {l : List Sym} {T : TypeId -> Prop} (h : SymsAt w v l) (hk : Keeps T w w') (hT : T 39) : SymsAt w' v l :=
  Rd.keeps h (hk.mono (by rintro t rfl; exact hT))
theorem SymsAt.below {w w' : World} {v : Value} {l : List Sym} (h : SymsAt w v l) (hb : Below w.heap.size w w') : SymsAt w' v l := Rd.below h hb
theorem SymsAt.nil (w : World) : SymsAt w (.slice none 0 0) [] := Rd.nil _ _ _
theorem SymsAt.of_own {w : World} {base : Nat} {v : Value} {l : List Sym} (h : w.ownsRow base 39 2 v l.length (symsC l)) : SymsAt w v l := Rd.of_own h
theorem SymsAt.form {w : World} {v : Value} {l : List Sym} (h : SymsAt w v l) : ∃ a cap, v = .slice a l.length cap /\ l.length <= cap /\ cap <= maxLen := Rd.form h
theorem SymsAt.at {w : World} {a : Option Addr} {c : Nat} {l : List Sym} (h : SymsAt w (.slice a l.length c) l) {k : Nat} (hk : k < l.length) :
    ∃ b off, a = some ⟨b, off, none⟩ /\ b < w.heap.size /\ w.cell? ⟨b, off + k * 2, none⟩ = some (.int .i64 l[k].lang) /\ w.cell? ⟨b, off + k * 2 + 1, none⟩ = some (.int .u8 l[k].c) := by
  obtain ⟨b, off, e, hb, hc⟩ := Rd.at h (by omega)
  have := symsC_get l k hk
  exact ⟨b, off, e, hb, hc _ _ this.1, hc (k * 2 + 1) _ this.2⟩
theorem SymsAt.part {w : World} {a : Option Addr} {c : Nat} {l : List Sym} (h : SymsAt w (.slice a l.length c) l) {x y m : Nat} (h1 : x <= y) (h2 : y <= l.length) (h3 : y <= m) (h4 : m <= c) :
    SymsAt w (.slice (if m = x then a else a.map (·.add (x * 2))) (y - x) (m - x)) ((l.drop x).take (y - x)) := by
  have := Rd.part h h1 h2 h3 h4
  rw [symsC_drop, symsC_take] at this
  unfold SymsAt
  have e : ((l.drop x).take (y - x)).length = y - x := by simp; omega
  rw [e]
  exact this
def editC (e : Edit) (u : Value) : List Value := [.int .i64 e.pos, .int .i64 e.del, u]
def zq90 : List Edit -> List Value -> List Value
  | e :: l, u :: us => editC e u ++ zq90 l us
  | _, _ => []
theorem editsC_get : ∀ (l : List Edit) (us : List Value) (i : Nat) (h : i < l.length) (h' : i < us.length),
    (zq90 l us)[i * 3]? = some (.int .i64 l[i].pos) /\ (zq90 l us)[i * 3 + 1]? = some (.int .i64 l[i].del) /\ (zq90 l us)[i * 3 + 2]? = some us[i]
  | [], _, _, h, _ => by simp at h
  | _ :: _, [], _, _, h' => by simp at h'
  | a :: l, b :: us, 0, _, _ => by simp [zq90, editC]
  | a :: l, b :: us, i + 1, h, h' => by
    have := editsC_get l us i (by simpa using h) (by simpa using h')
    have e : (i + 1) * 3 = i * 3 + 1 + 1 + 1 := by omega
    simpa [zq90, editC, e] using this
def EditsAt (w : World) (v : Value) (l : List Edit) : Prop :=
  ∃ us : List Value, us.length = l.length /\ Rd w (· = 79) 3 v l.length (zq90 l us) /\ ∀ i (h : i < l.length) (h' : i < us.length), SymsAt w us[i] l[i].ins
theorem EditsAt.keeps {w w' : World} {v : Value} {l : List Edit} {T : TypeId -> Prop} (h : EditsAt w v l) (hk : Keeps T w w') (h1 : T 39) (h2 : T 79) : EditsAt w' v l := by
  obtain ⟨us, hl, hr, hs⟩ := h
  exact ⟨us, hl, hr.keeps (hk.mono (by rintro t rfl; exact h2)), fun i a b => (hs i a b).keeps hk h1⟩
theorem EditsAt.below {w w' : World} {v : Value} {l : List Edit} (h : EditsAt w v l) (hb : Below w.heap.size w w') : EditsAt w' v l :=
  h.keeps (Keeps.below (fun _ => True) hb) trivial trivial
theorem EditsAt.nil (w : World) : EditsAt w (.slice none 0 0) [] := ⟨[], rfl, Rd.nil _ _ _, fun _ h => by simp at h⟩
theorem EditsAt.form {w : World} {v : Value} {l : List Edit} (h : EditsAt w v l) : ∃ a cap, v = .slice a l.length cap /\ l.length <= cap /\ cap <= maxLen := by
  obtain ⟨_, _, hr, _⟩ := h
  exact hr.form
theorem EditsAt.at {w : World} {a : Option Addr} {c : Nat} {l : List Edit} (h : EditsAt w (.slice a l.length c) l) {k : Nat} (hk : k < l.length) :
    ∃ b off u, a = some ⟨b, off, none⟩ /\ b < w.heap.size /\ w.cell? ⟨b, off + k * 3, none⟩ = some (.int .i64 l[k].pos) /\ w.cell? ⟨b, off + k * 3 + 1, none⟩ = some (.int .i64 l[k].del) /\
      w.cell? ⟨b, off + k * 3 + 2, none⟩ = some u /\ SymsAt w u l[k].ins := by
  obtain ⟨us, hl, hr, hs⟩ := h
  obtain ⟨b, off, e, hb, hc⟩ := hr.at (by omega)
  have := editsC_get l us k hk (by omega)
  exact ⟨b, off, us[k], e, hb, hc _ _ this.1, hc (k * 3 + 1) _ this.2.1, hc (k * 3 + 2) _ this.2.2, hs k hk (by omega)⟩
theorem zq48 : SlT Tryz.prog 31 39 (.agg #[.int .i64 0, .int .u8 0]) 2 16 := ⟨by kernel_rfl, by kernel_rfl, rfl, by decide⟩
theorem fields_sym : (Tryz.prog.fieldsOf 39).toList.map (fun f => (f.name == "_", f.type, f.offset)) = [(false, 3, 0), (false, 5, 1)] := by kernel_rfl
theorem run_eqIn_sym (d : Nat) (x1 x2 y1 y2 : Int) (w : World) : (Op.equalIn (d + 2) 39 (.agg #[.int .i64 x1, .int .u8 x2]) (.agg #[.int .i64 y1, .int .u8 y2])).run Tryz.prog w = .ok ((x1 == y1) && (x2 == y2)) w := by
  rw [show d + 2 = (d + 1) + 1 from rfl, run_equalIn_struct w (d + 1) 39 _ _ (by kernel_rfl) (by kernel_rfl)]
  have hf := fields_sym
  generalize (Tryz.prog.fieldsOf 39).toList = L at hf ⊢
  obtain ⟨f0, f1, rfl⟩ : ∃ f0 f1, L = [f0, f1] := by
    have hl := congrArg List.length hf
    simp only [List.length_map, List.length_cons, List.length_nil] at hl
    match L, hl with
    | [f0, f1], _ => exact ⟨f0, f1, rfl⟩
  simp only [List.map_cons, List.map_nil, List.cons.injEq, Prod.mk.injEq, beq_eq_false_iff_ne, ne_eq, and_true] at hf
  obtain ⟨⟨n0, t0, o0⟩, n1, t1, o1⟩ := hf
  simp only [Op.eqFields, n0, n1, t0, t1, o0, o1, ne_eq, not_false_eq_true, if_true, Sem.run_bind]
  have p0 : ∀ (a b : Int) (w : World), (part 3 #[.int .i64 a, .int .u8 b] 0).run Tryz.prog w = .ok (.int .i64 a) w := fun _ _ _ => by kernel_rfl
  have p1 : ∀ (a b : Int) (w : World), (part 5 #[.int .i64 a, .int .u8 b] 1).run Tryz.prog w = .ok (.int .u8 b) w := fun _ _ _ => by kernel_rfl
  have q1 := run_equalIn_int (P := Tryz.prog) w d 5 .u8 .u8 x2 y2 Tryz.underlying5
  simp only [p0, Result.andThen_ok, run_equalIn_int w d 3 .i64 .i64 x1 y1 Tryz.underlying3]
  by_cases h : x1 = y1
  · subst h
    by_cases h2 : x2 = y2
    · subst h2; simp [p1, q1]
    · have : (x2 == y2) = false := by simpa using h2
      simp [this, p1, q1]
  · have : (x1 == y1) = false := by simpa using h
    simp [this]
theorem run_neq_sym (x1 x2 y1 y2 : Int) (w : World) : (binOp .neq 39 (.agg #[.int .i64 x1, .int .u8 x2]) (.agg #[.int .i64 y1, .int .u8 y2])).run Tryz.prog w = .ok (.bool (!((x1 == y1) && (x2 == y2)))) w := by
  rw [run_neq_struct, show (10000 : Nat) = 9998 + 2 from rfl, run_eqIn_sym]; rfl
theorem run_guard_sym (op : BinOp) (x y : Operand) (xs ys : Array Value) (w : World) : (eqGuard op 39 x y (.agg xs) (.agg ys)).run Tryz.prog w = .ok () w :=
  run_eqGuard_agg w op 39 x y xs ys (by kernel_rfl)
end Go.Proofs.YtcfjepcflanjbaaGreat
