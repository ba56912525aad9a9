/- Contracts: all rules are right (package table); a letter has a rule of its own (dactylref06). -/
import Derived.Test.YtcfjepcflanjbaaGreatBi04
import Derived.RangeFuncNested
import Derived.RangeFuncLeaves
import Derived.RangeFuncCalls
import Derived.RangeFuncBound
import Derived.RangeFuncWrites
import Derived.RangeFuncBox
import Derived.Test.YtcfjepcflanjbaaGreatBi01
import Derived.OrdersIn
import Derived.OrdersHeld
import Derived.Deep.RegionHeld3
import Derived.TacticsIn
namespace Go.Proofs.YtcfjepcflanjbaaGreat
open Go.RowKit Go.Lab Go.Shelf
def RuleOk (r : RuleZ) : Prop := r.text.size ≤ 100000 ∧ -9223372036854775808 ≤ r.wh ∧ r.wh ≤ 9223372036854775807
theorem rule_at {w : World} {a : Option Addr} {c : Nat} {l : List RuleZ} (h : RulesAt w (.slice a l.length c) l) {k : Nat} (hk : k < l.length) :
    ∃ b off ua un uc, a = some ⟨b, off, none⟩ ∧ b < w.heap.size ∧ w.cell? ⟨b, off + k * 3, none⟩ = some (.string l[k].text) ∧ w.cell? ⟨b, off + k * 3 + 1, none⟩ = some (.int .i64 l[k].wh) ∧ w.cell? ⟨b, off + k * 3 + 2, none⟩ = some (.slice ua un uc) ∧ BysAt w (.slice ua un uc) l[k].cells := by
  obtain ⟨b, off, u, e, hb, hr, hu⟩ := h.at hk
  obtain ⟨ua, uc, rfl, _, _⟩ := hu.1.form
  exact ⟨b, off, ua, _, uc, e, hb, hr 0 _ rfl, hr 1 _ rfl, hr 2 _ rfl, hu⟩
set_option maxHeartbeats 800000 in
theorem valid1_any (r : RuleZ) (ua : Option Addr) (un uc : Nat) (w : World) (hu : BysAt w (.slice ua un uc) r.cells) (hs : r.text.size ≤ 100000) :
    Calls Tryz.prog 63 #[.agg #[.string r.text, .int .i64 r.wh, .slice ua un uc]] w fun e w' => e = .returned (.bool (!rightB r)) ∧ Below w.heap.size w w' := by
  have hbx := (Below.refl w.heap.size w).alloc (Nat.le_refl _) (.cells #[.string r.text, .int .i64 r.wh, .slice ua un uc] 59)
  have H := hidep (rightT_any r (.slice ua un uc) _ (hu.below hbx) hs)
  have HBX := hidep hbx
  clear hu hs hbx
  obtain ⟨s, wh, cl⟩ := r
  simp only at H HBX ⊢
  generalize rightB ⟨s, wh, cl⟩ = rb at *
  go_enter Tryz.func63, Tryz.ntmps63
  go_wp2_with (go_at_call 64; refine H.out.mono ?_; rintro e w1 ⟨rfl, hb1⟩)
  go_ret
  exact ⟨rfl, HBX.out.trans (hb1.mono HBX.out.size)⟩
set_option maxHeartbeats 1000000 in
theorem indexFuncR_any (v : Value) (l : List RuleZ) (w : World) (h : RulesAt w v l) (hl : ∀ r ∈ l, RuleOk r) :
    Calls Tryz.prog 100 #[v, .func (.func 63) #[] #[]] w fun e w' => (∃ k : Int, e = .returned (.int .i64 k) ∧ Hid (decide (0 ≤ k) = !l.all rightB)) ∧ Below w.heap.size w w' := by
  obtain ⟨a, cap, rfl, h2, h3⟩ := h.form
  unfold maxLen at h3
  go_enter Tryz.func100, Tryz.ntmps100
  go_wp2
  go_loopw [8] (fun i wr => ∃ k : Nat, k ≤ l.length ∧ i = .int .i64 k ∧ Hid ((l.take k).all rightB = true) ∧ Below w.heap.size w wr) (fun i _ => l.length - (intOf i).toNat)
  case atStart => exact ⟨0, Nat.zero_le _, rfl, hidep rfl, Below.refl _ _⟩
  case round =>
    obtain ⟨k, hk, rfl, hg, hbw⟩ := hrel
    by_cases hlt : k < l.length
    · obtain ⟨b, off, ua, un, uc, rfl, hb, hc0, hc1, hc2, hu⟩ := rule_at (h.below hbw) hlt
      have hm := hl _ (List.getElem_mem hlt)
      have HT := hidep (takeAll rightB l k hlt hg.out)
      have HF := hidep (allFalse rightB l k hlt)
      obtain ⟨y, hy⟩ : ∃ y, y = l[k] := ⟨_, rfl⟩
      rw [← hy] at hc0 hc1 hu hm HT HF
      have HC := hidep (valid1_any y ua un uc wr hu hm.1)
      clear hy h hu hm hl
      obtain ⟨s, wh, cl⟩ := y
      simp only at hc0 hc1 HC
      cases hp : rightB ⟨s, wh, cl⟩ with
      | true =>
        rw [hp] at HC HT
        clear hp
        go_wp2_with (go_at_call 63; refine HC.out.mono ?_; rintro e w1 ⟨rfl, hb1⟩)
        go_roundw
        case rel => exact ⟨k + 1, by omega, by go_num, HT, hbw.trans (hb1.mono hbw.size)⟩
        case measure => simp [intOf]; omega
      | false =>
        rw [hp] at HC
        have HF := hidep (HF.out hp)
        clear hp
        go_wp2_with (go_at_call 63; refine HC.out.mono ?_; rintro e w1 ⟨rfl, hb1⟩)
        go_ret
        exact ⟨⟨_, rfl, hidep (by rw [HF.out]; simp)⟩, hbw.trans (hb1.mono hbw.size)⟩
    · go_wp2
      go_ret
      have hkl : k = l.length := by omega
      subst hkl
      have := hg.out
      rw [List.take_length] at this
      exact ⟨⟨_, rfl, hidep (by rw [this]; rfl)⟩, hbw⟩
set_option maxHeartbeats 400000 in
theorem containsFuncR_any (v : Value) (l : List RuleZ) (w : World) (h : RulesAt w v l) (hl : ∀ r ∈ l, RuleOk r) :
    Calls Tryz.prog 62 #[v, .func (.func 63) #[] #[]] w fun e w' => e = .returned (.bool (!l.all rightB)) ∧ Below w.heap.size w w' := by
  have HI := hidep (indexFuncR_any v l w h hl)
  clear h hl
  go_enter Tryz.func62, Tryz.ntmps62
  go_wp2_with fail
  refine HI.out.mono ?_
  rintro e w1 ⟨⟨k, rfl, hk⟩, hb⟩
  go_wp2
  go_ret
  exact ⟨ret_val (congrArg Value.bool hk.out), hb⟩
def ownR (c : Int) (r : RuleZ) : Bool := decide (r.wh = 0) && decide (byts r.text = [c])
theorem own_eq (l : List RuleZ) (c : Int) : ownB l c = !l.all (fun r => !ownR c r) := by
  unfold ownB
  induction l with
  | nil => rfl
  | cons a l ih =>
    rw [List.any_cons, List.all_cons, ih]
    unfold ownR
    cases decide (a.wh = 0) && decide (byts a.text = [c]) <;> simp
theorem byts_one {s : ByteArray} (h : s.size = 1) (c : Int) (h2 : 0 < (byts s).length) : (byts s = [c]) ↔ (byts s)[0] = c := by
  have hl : (byts s).length = 1 := by rw [byts_len, h]
  constructor
  · intro e
    simp only [e, List.getElem_cons_zero]
  · intro e
    apply List.ext_getElem
    · rw [hl]; rfl
    · intro i h1 h3
      have hi : i = 0 := by omega
      subst hi
      simpa using e
set_option maxHeartbeats 1000000 in
theorem ownR_any (v : Value) (l : List RuleZ) (c : Int) (w : World) (h : RulesAt w v l) (_hl : ∀ r ∈ l, RuleOk r) :
    Calls Tryz.prog 70 #[v, .int .u8 c] w fun e w' => e = .returned (.bool (ownB l c)) ∧ w' = w := by
  rw [own_eq]
  obtain ⟨a, cap, rfl, h2, h3⟩ := h.form
  unfold maxLen at h3
  go_enter Tryz.func70, Tryz.ntmps70
  go_upto_region 2 with (fail)
  go_loopw [5] (fun i wr => ∃ k : Nat, k ≤ l.length ∧ i = .int .i64 (k : Nat) ∧ Hid ((l.take k).all (fun r => !ownR c r) = true) ∧ wr = w) (fun i _ => l.length - (intOf i).toNat)
  case atStart => exact ⟨0, Nat.zero_le _, rfl, hidep rfl, rfl⟩
  case round =>
    obtain ⟨k, hk, rfl, hg, rfl⟩ := hrel
    by_cases hlt : k < l.length
    · obtain ⟨b, off, ua, un, uc, rfl, hb, hc0, hc1, hc2, hu⟩ := rule_at h hlt
      have HT := hidep (takeAll (fun r => !ownR c r) l k hlt hg.out)
      have HF := hidep (allFalse (fun r => !ownR c r) l k hlt)
      obtain ⟨y, hy⟩ : ∃ y, y = l[k] := ⟨_, rfl⟩
      rw [← hy] at hc0 hc1 HT HF
      clear hy h hu
      obtain ⟨s, wh, cl⟩ := y
      simp only at hc0 hc1
      have hlt1 : (k : Int) < (l.length : Int) := by omega
      have hpos : (0 : Int) ≤ (k : Int) := by omega
      by_cases h5 : wh = 0
      · have g5 : (wh == 0) = true := by simp [h5]
        by_cases h6 : s.size = 1
        · have g6 : (s.size : Int) = 1 := by omega
          have hs0 : 0 < s.size := by omega
          have hs1 : 0 < (byts s).length := by rw [byts_len]; exact hs0
          have hat := byts_at s 0 hs0 hs1
          have hone := byts_one h6 c hs1
          obtain ⟨y, hy⟩ : ∃ y, y = (byts s)[0] := ⟨_, rfl⟩
          rw [← hy] at hat hone
          clear hy
          by_cases h7 : y = c
          · have g7 : (y == c) = true := by simp [h7]
            have ho : (!ownR c ⟨s, wh, cl⟩) = false := by unfold ownR; rw [decide_eq_true h5, decide_eq_true (hone.2 h7)]; rfl
            have HG := hidep (HF.out ho)
            clear ho hone h7 h5 h6
            go_wp2
            go_ret
            exact ⟨by rw [HG.out]; rfl, rfl⟩
          · have g7 : (y == c) = false := by simp [h7]
            have ho : (!ownR c ⟨s, wh, cl⟩) = true := by unfold ownR; rw [decide_eq_false (fun e => h7 (hone.1 e)), Bool.and_false]; rfl
            have HG := hidep (HT.out.trans ho)
            clear ho hone h7 h5 h6
            go_wp2
            go_roundw
            case rel => exact ⟨k + 1, by omega, by go_num, HG, trivial⟩
            case measure => simp [intOf]; omega
        · have g6 : ¬ (s.size : Int) = 1 := by omega
          have g6b : ((s.size : Int) == 1) = false := by simp; omega
          have ho : (!ownR c ⟨s, wh, cl⟩) = true := by
            unfold ownR
            rw [decide_eq_false (p := byts s = [c]) (fun e => h6 (by rw [← byts_len, e]; rfl)), Bool.and_false]; rfl
          have HG := hidep (HT.out.trans ho)
          clear ho h5 h6
          go_wp2
          go_roundw
          case rel => exact ⟨k + 1, by omega, by go_num, HG, trivial⟩
          case measure => simp [intOf]; omega
      · have g5 : (wh == 0) = false := by simp [h5]
        have ho : (!ownR c ⟨s, wh, cl⟩) = true := by unfold ownR; rw [decide_eq_false h5, Bool.false_and]; rfl
        have HG := hidep (HT.out.trans ho)
        clear ho
        go_wp2
        go_roundw
        case rel => exact ⟨k + 1, by omega, by go_num, HG, trivial⟩
        case measure => simp [intOf]; omega
    · have hkl : k = l.length := by omega
      have hA := hg.out
      rw [hkl, List.take_length] at hA
      have HA := hidep hA
      clear hA
      go_wp2
      go_ret
      exact ⟨by rw [HA.out]; rfl, rfl⟩
end Go.Proofs.YtcfjepcflanjbaaGreat
/- Reader: a function with loops over functions within a loop: the marks among its deferred calls. -/
namespace Go.Lab
open Go Go.RowKit
def markD (r : Nat) : Deferred := { target := .collected r, args := #[] }
def Marks (lo : Nat) (ds : List Deferred) (w : World) : Prop := ∃ rs : List Nat, ds = rs.map markD ∧ rs.Nodup ∧ ∀ r ∈ rs, lo ≤ r ∧ w.heap[r]? = some (.deferred (some []))
def KeepsM (w w' : World) : Prop := ∀ r : Nat, w.heap[r]? = some (.deferred (some [])) → w'.heap[r]? = some (.deferred (some []))
theorem KeepsM.refl (w : World) : KeepsM w w := fun _ h => h
theorem KeepsM.trans {a b c : World} (h : KeepsM a b) (k : KeepsM b c) : KeepsM a c := fun r hr => k r (h r hr)
theorem KeepsM.below {w w' : World} (h : Below w.heap.size w w') : KeepsM w w' := fun r hr => (h.block r (lt_of_block hr)).trans hr
theorem KeepsM.grown {w w' : World} {b : Nat} {o : Obj} (hg : w.grownBy w' (some b)) (hb : w.heap[b]? = some o) (ho : o ≠ .deferred (some [])) : KeepsM w w' := fun r hr => by
  refine (hg.block r (lt_of_block hr) (fun e => ?_)).trans hr
  injection e with e
  subst e
  rw [hb] at hr
  injection hr with hr
  exact ho hr
theorem Marks.nil (lo : Nat) (w : World) : Marks lo [] w := ⟨[], rfl, List.nodup_nil, fun _ h => by cases h⟩
theorem Marks.kept {lo : Nat} {ds : List Deferred} {w w' : World} (h : Marks lo ds w) (hk : KeepsM w w') : Marks lo ds w' := by
  obtain ⟨rs, h1, h2, h3⟩ := h
  exact ⟨rs, h1, h2, fun r hr => ⟨(h3 r hr).1, hk r (h3 r hr).2⟩⟩
theorem Marks.cons {lo D : Nat} {ds : List Deferred} {w w' : World} (h : Marks lo ds w) (hk : KeepsM w w') (hlo : lo ≤ D) (hD : w.heap.size ≤ D) (hd : w'.heap[D]? = some (.deferred (some []))) :
    Marks lo ({ target := .collected D, args := #[] } :: ds) w' := by
  obtain ⟨rs, h1, h2, h3⟩ := h
  refine ⟨D :: rs, by rw [h1]; rfl, List.nodup_cons.2 ⟨fun hm => ?_, h2⟩, fun r hr => ?_⟩
  · have := lt_of_block (h3 D hm).2; omega
  · rcases List.mem_cons.1 hr with rfl | hr
    · exact ⟨hlo, hd⟩
    · exact ⟨(h3 r hr).1, hk r (h3 r hr).2⟩
end Go.Lab
/- A region that draws its order, inside a round of a loop over a function: by the law for a region outside of it. Nothing here speaks of the program. -/
namespace Go.Lab
open Go Go.RowKit
variable {P : Program} {ops : Array Oper} {Q : Exit → Act → World → Prop} {md : Region.Mode}
def slot (t : Array Value) (i : Nat) : Value := t.getD i undef
def LoopI (n : Nat) (R : Array Value → List Deferred → World → Prop) (a : Act) (w : World) : Prop := a.tmps.size = n ∧ R a.tmps a.defers w
theorem LoopI.mk {n : Nat} {R : Array Value → List Deferred → World → Prop} {a : Act} {w : World} (h : a.tmps.size = n) (hR : R a.tmps a.defers w) : LoopI n R a w := ⟨h, hR⟩
end Go.Lab
/- Plain words on walks, gathered from the texts of the Reader seat: what turned, joins, abstractions. No program in sight. -/
namespace Go.Proofs.YtcfjepcflanjbaaGreat
open Go.RowKit Go.Lab
structure Turned (T : Nat → Prop) (w w' : World) : Prop where
  os : w'.os = w.os
  tape : w'.tape = w.tape
  output : w'.output = w.output
  size : w.heap.size ≤ w'.heap.size
  block : ∀ b, b < w.heap.size → ¬ T b → w'.heap[b]? = w.heap[b]?
theorem Turned.refl (T : Nat → Prop) (w : World) : Turned T w w := ⟨rfl, rfl, rfl, Nat.le_refl _, fun _ _ _ => rfl⟩
theorem Turned.trans {T : Nat → Prop} {a b c : World} (h : Turned T a b) (k : Turned T b c) : Turned T a c :=
  ⟨k.os.trans h.os, k.tape.trans h.tape, k.output.trans h.output, Nat.le_trans h.size k.size, fun x hx hT => (k.block x (Nat.lt_of_lt_of_le hx h.size) hT).trans (h.block x hx hT)⟩
theorem Turned.mono {T T' : Nat → Prop} {a b : World} (h : Turned T a b) (hT : ∀ x, x < a.heap.size → T x → T' x) : Turned T' a b :=
  ⟨h.os, h.tape, h.output, h.size, fun x hx hn => h.block x hx (fun ht => hn (hT x hx ht))⟩
theorem Turned.of_below {T : Nat → Prop} {w w' : World} (h : Below w.heap.size w w') : Turned T w w' := ⟨h.os, h.tape, h.output, h.size, fun b hb _ => h.block b hb⟩
theorem Turned.of_grown {T : Nat → Prop} {w w' : World} {x : Nat} (h : w.grownBy w' (some x)) (hx : T x) : Turned T w w' :=
  ⟨h.os, h.tape, h.output, h.size, fun b hb hT => h.block b hb (fun e => by injection e with e; subst e; exact hT hx)⟩
theorem Turned.grown {T : Nat → Prop} {w w' : World} {x : Nat} (h : Turned T w w') (hT : ∀ b, b < w.heap.size → T b → b = x) : w.grownBy w' (some x) :=
  ⟨h.os, h.tape, h.output, h.size, fun b hb hn => h.block b hb (fun ht => hn (by rw [hT b hb ht]))⟩
theorem Turned.cells {T : Nat → Prop} {w w' : World} (h : Turned T w w') {b : Nat} {o : Obj} (hb : w.heap[b]? = some o) (hT : ¬ T b) : w'.heap[b]? = some o := (h.block b (lt_of_block hb) hT).trans hb
theorem Turned.keeps {T : Nat → Prop} {w w' : World} (h : Turned T w w') (hT : ∀ b, T b → ∀ cur t fz, w.heap[b]? ≠ some (.cells cur t fz)) : Keeps (fun _ => True) w w' :=
  ⟨h.size, fun b cur t fz _ hb => h.cells hb (fun ht => hT b ht cur t fz hb)⟩
theorem Turned.drew {T : Nat → Prop} {w w' : World} (h : Turned T w w') : Turned T w w'.drew := ⟨h.os, h.tape, h.output, h.size, h.block⟩
theorem Turned.alloc {T : Nat → Prop} {w w' : World} (h : Turned T w w') (o : Obj) : Turned T w (w'.alloc o) := h.trans (Turned.of_below ((Below.refl _ _).alloc (Nat.le_refl _) o))
theorem Turned.below {T : Nat → Prop} {w w' w'' : World} (h : Turned T w w') (hb : Below w'.heap.size w' w'') : Turned T w w'' := h.trans (Turned.of_below hb)
theorem Turned.setCell {T : Nat → Prop} {w w' : World} (h : Turned T w w') (a : Addr) (v : Value) (ha : w.heap.size ≤ a.block ∨ T a.block) : Turned T w (w'.setCell a v) :=
  ⟨h.os, h.tape, h.output, by simp [World.setCell]; exact h.size, fun b hb hT => (Below.heap_setCell w' a v b (fun e => by subst e; rcases ha with h1 | h1; exact absurd hb (Nat.not_lt.2 h1); exact hT h1)).trans (h.block b hb hT)⟩
theorem Turned.own {T : Nat → Prop} {w W W' : World} {row : Option Nat} (h : Turned T w W) (hg : W.grownBy W' row) (hr : ∀ r, row = some r → w.heap.size ≤ r) : Turned T w W' :=
  ⟨hg.os.trans h.os, hg.tape.trans h.tape, hg.output.trans h.output, Nat.le_trans h.size hg.size, fun b hb hT => (hg.block b (Nat.lt_of_lt_of_le hb h.size) (fun e => absurd hb (Nat.not_lt.2 (hr b e.symm)))).trans (h.block b hb hT)⟩
theorem Turned.from {T : Nat → Prop} {w w' : World} (h : Turned T w w') {B : Nat} (hT : ∀ b, B ≤ b → ¬ T b) : KeepsFrom B w w' := ⟨h.size, fun k _ hk ho _ => h.cells ho (hT k hk)⟩
theorem Turned.cell {T : Nat → Prop} {w w' : World} (h : Turned T w w') {b o : Nat} {v : Value} (hc : w.cell? ⟨b, o, none⟩ = some v) (hT : ¬ T b) : w'.cell? ⟨b, o, none⟩ = some v := by
  have hb : b < w.heap.size := World.block_lt_of_cell? w ⟨b, o, none⟩ hc
  simp only [World.cell?, h.block b hb hT] at hc ⊢
  exact hc
theorem wp_abs {P : Program} {c : Code} {Q : Exit → Act → World → Prop} {a : Act} {w : World} (Pw : World → Prop) (h : Pw w) (k : ∀ w', Pw w' → c.wp P Q a w') : c.wp P Q a w := k w h
theorem wp_cutA {P : Program} {c : Code} {Q : Exit → Act → World → Prop} {a : Act} {w : World} (N : Nat) (R : Array Value → List Deferred → Prop) (hs : a.tmps.size = N) (hR : R a.tmps a.defers) (k : ∀ t ds, t.size = N → R t ds → c.wp P Q { tmps := t, defers := ds } w) : c.wp P Q a w := k _ _ hs hR
theorem heap_set {W : World} {b : Nat} {cur : Array Value} {t : TypeId} {f : Nat × Nat} (h : W.heap[b]? = some (.cells cur t f)) (j : Nat) (v : Value) : (W.setCell ⟨b, j, none⟩ v).heap[b]? = some (.cells (cur.setIfInBounds j v) t f) := by
  simp [World.setCell, Array.getElem?_modify, h]
theorem ownsRow_turned {T : Nat → Prop} {W X : World} {base : Nat} {e : TypeId} {k n : Nat} {v : Value} {xs : List Value} (h : W.ownsRow base e k v n xs) (hT : Turned T W X) (hne : ∀ g, v.ownBlock = some g → ¬ T g) : X.ownsRow base e k v n xs := by
  refine ⟨h.1, ?_⟩
  rcases h.2 with h2 | ⟨g, cap, cur, rfl, hg, hb, r⟩
  · exact .inl h2
  · exact .inr ⟨g, cap, cur, rfl, hg, hT.cells hb (hne g rfl), r⟩
theorem ownsRow_cells {W : World} {base : Nat} {e : TypeId} {k n : Nat} {v : Value} {xs : List Value} (h : W.ownsRow base e k v n xs) {g : Nat} (hg : v.ownBlock = some g) : ∃ cur, W.heap[g]? = some (.cells cur e (0, 0)) := by
  rcases h.2 with ⟨rfl, _⟩ | ⟨g', cap, cur, rfl, _, hb, _⟩
  · cases hg
  · injection hg with hg
    subst hg
    exact ⟨cur, hb⟩
theorem wp_join {P : Program} {c : Code} {K : Act → World → Prop} {Q : Exit → Act → World → Prop} {a : Act} {w : World} (M : Act → World → Prop) (h1 : ∀ K' : Act → World → Prop, (∀ a w, M a w → K' a w) → c.wp P (Exit.then K' Q) a w) (h2 : ∀ a w, M a w → K a w) : c.wp P (Exit.then K Q) a w := h1 K h2
theorem intro_alloc {K : Act → World → Prop} {a : Act} {W : World} {o : Obj} (h : ∀ X, Below W.heap.size W X → X.heap[W.heap.size]? = some o → K a X) : K a (W.alloc o) :=
  h _ ((Below.refl _ _).alloc (Nat.le_refl _) o) (heap_alloc_new _ _)
theorem intro_alloc_drew {K : Act → World → Prop} {a : Act} {W : World} {o : Obj} (h : ∀ X, Below W.heap.size W X → X.heap[W.heap.size]? = some o → K a X) : K a (W.alloc o).drew :=
  h _ (((Below.refl _ _).alloc (Nat.le_refl _) o).drew) (heap_alloc_new _ _)
theorem grown_other {W W' : World} {base : Nat} {e : TypeId} {k n : Nat} {v : Value} {xs : List Value} (hown : W.ownsRow base e k v n xs) (hg : W.grownBy W' v.ownBlock) {p : Nat} {cur : Array Value} {t : TypeId} {fz : Nat × Nat} (hP : W.heap[p]? = some (.cells cur t fz)) (hne : t ≠ e) :
    W'.heap[p]? = some (.cells cur t fz) := (Keeps.grown (T := fun x => x = t) hown hg (fun _ h => h ▸ hne)).2 _ _ _ _ rfl hP
theorem below_push {W W' : World} {p : Nat} {o : Obj} (hb : Below W.heap.size W W') (hP : W.heap[p]? = some o) : W'.heap[p]? = some o := (hb.block _ (lt_of_block hP)).trans hP
theorem box_frozen {W : World} {p : Nat} {cur : Array Value} {t : TypeId} (hP : W.heap[p]? = some (.cells cur t)) (j : Nat) : W.frozen? ⟨p, j, none⟩ = false := by simp [World.frozen?, hP]
theorem box1_cell {w : World} {b : Nat} {x : Value} {t : TypeId} {fz : Nat × Nat} (h : w.heap[b]? = some (.cells #[x] t fz)) : w.cell? ⟨b, 0, none⟩ = some x := by simp [World.cell?, h]
theorem results_cell1 {fn : Func} {p : Tmp} {t1 : TypeId} (h : fn.results = #[.cell p t1]) (tmps : Array Value) (P : Program) (w : World) {b1 : Addr} {v1 : Value}
    (e1 : tmps.getD p undef = .pointer (some b1)) (l1 : (loadVar t1 b1).run P w = .ok v1 w) : (results fn tmps).run P w = .ok v1 w := by
  have e1' : tmps[p]?.getD undef = .pointer (some b1) := by simpa using e1
  simp only [results, h]
  simp [e1', l1, asAddr]
end Go.Proofs.YtcfjepcflanjbaaGreat
