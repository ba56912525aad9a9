/- Worlds: a copy of tables that is changed. -/
import Derived.Test.YtcfjepcflanjbaaGreatBr42
import Derived.Test.YtcfjepcflanjbaaGreatBr11
namespace Go.Proofs.YtcfjepcflanjbaaGreat
open Go.RowKit Go.Lab Go.Shelf
set_option maxRecDepth 100000
def BtP (w : World) (e : Ending) (w' : World) : Prop := ∃ V T, e = .returned (TabV.v V) /\ TabIn w' V T /\ TabOk T /\ Below w.heap.size w w'
def BtB (w : World) (V : TabV) (Bt Br : Nat) (X : World) : Prop := Below w.heap.size w X /\ X.heap[Bt]? = some (.cells #[V.a, V.b, V.d, V.c, V.n, V.e, V.s] 29) /\ X.heap[Br]? = some (.cells #[.slice none 0 0, .slice none 0 0, .slice none 0 0, .slice none 0 0, .slice none 0 0, .slice none 0 0, .slice none 0 0] 29)
theorem zqb1 : ∀ (l : List RuleZ) (us : List Value), (∀ u ∈ us, u.oneCell' = true) -> ∀ u ∈ zq10 l us, u.oneCell' = true
  | [], _, _, u, h => by simp [zq10] at h
  | e :: l, [], _, u, h => by simp [zq10] at h
  | e :: l, x :: us, hx, u, h => by
    simp only [zq10, ruleC, List.cons_append, List.nil_append, List.mem_cons] at h
    rcases h with rfl | rfl | rfl | h
    · rfl
    · rfl
    · exact hx _ (List.mem_cons_self ..)
    · exact zqb1 l us (fun y hy => hx y (List.mem_cons_of_mem _ hy)) u h
def MdT (w : World) (Bt Br B : Nat) (v : Value) (W : World) : Prop := ∃ V T L, Below w.heap.size w W /\ W.heap[Bt]? = some (.cells #[TabV.a V, V.b, V.d, V.c, V.n, V.e, V.s] 29) /\ W.heap[Br]? = some (.cells #[.slice none 0 0, .slice none 0 0, .slice none 0 0, .slice none 0 0, .slice none 0 0, .slice none 0 0, .slice none 0 0] 29) /\
  RuM (fun b => b = Bt \/ b = Br) B v L W /\ L.length <= 1200 /\ (∀ W' : World, W.heap.size <= W'.heap.size -> (∀ b, b < W.heap.size -> ¬ (b = Bt \/ b = Br) -> W'.heap[b]? = W.heap[b]?) -> TabIn W' V T) /\ TabOk T
theorem RulesAt.keepsT {w w' : World} {v : Value} {l : List RuleZ} (h : RulesAt w v l) (hk : Keeps (fun _ => True) w w') : RulesAt w' v l := by
  obtain ⟨us, hl, hr, hs⟩ := h
  exact ⟨us, hl, hr.keeps hk, fun i a b => ⟨(hs i a b).1.keeps hk, (hs i a b).2⟩⟩
theorem TabIn.keepsT {w w' : World} {V : TabV} {T : TabZ} (h : TabIn w V T) (hk : Keeps (fun _ => True) w w') : TabIn w' V T :=
  ⟨h.r0.keepsT hk, h.r1.keepsT hk, ⟨h.dg.1.keeps hk, h.dg.2⟩, ⟨h.cp.1.keeps hk, h.cp.2⟩, ⟨h.nm.1.keeps hk, h.nm.2⟩, ⟨h.en.1.keeps hk, h.en.2⟩, ⟨h.sw.1.keeps hk, h.sw.2⟩⟩
theorem ByN.fresh {S : Nat -> Prop} {B : Option Nat} {w : World} {b n m : Nat} {c : List Int} {xs : List Value} (h : w.heap[b]? = some (.cells xs.toArray 5)) (hB : B ≠ some b) (hS : ¬ S b) (hx : xs.take n = byC c) (hn : n <= m) (hl : xs.length = m) (hm : m <= maxLen) (hr : ∀ x ∈ c, 0 <= x /\ x < 256) : ByN S B w (.slice (some ⟨b, 0, none⟩) n m) c := fun w' _ ha => by
  subst hl
  have hcl : c.length = n := by
    have := congrArg List.length hx
    rw [byC_len, List.length_take] at this
    omega
  have h' := (ha b (lt_of_block h) (fun e => hB e.symm) hS).trans h
  refine ⟨?_, hr⟩
  rw [hcl, <- hx]
  have := zq8a (k := 1) (n := xs.length) h' (by simp) hm
  have hp := (show Rd w' (· = 5) 1 _ _ xs from this).pre hn
  rw [Nat.mul_one] at hp
  exact hp.mono (fun _ _ => trivial)
theorem RuM.base {S : Nat -> Prop} {B g n c : Nat} {L : List RuleZ} {W : World} (h : RuM S B (.slice (some ⟨g, 0, none⟩) n c) L W) : B <= g /\ g < W.heap.size /\ n = L.length := by
  obtain ⟨us, h1, h2, _, _⟩ := h
  refine ⟨(h2.lt g rfl).1, (h2.lt g rfl).2, ?_⟩
  obtain ⟨a, c', e, _⟩ := (Rd.of_own h2).form
  injection e
theorem RuM.cells {S : Nat -> Prop} {B g n c : Nat} {L : List RuleZ} {W : World} (h : RuM S B (.slice (some ⟨g, 0, none⟩) n c) L W) {k : Nat} (hk : k < L.length) :
    W.cell? ⟨g, k * 3, none⟩ = some (.string L[k].text) /\ W.cell? ⟨g, k * 3 + 1, none⟩ = some (.int .i64 L[k].wh) /\ (∃ a m c', W.cell? ⟨g, k * 3 + 2, none⟩ = some (.slice a m c') /\ ByN S (some g) W (.slice a m c') L[k].cells /\ m = L[k].cells.length) /\ ∀ j, W.frozen? ⟨g, j, none⟩ = false := by
  obtain rfl := h.base.2.2
  obtain ⟨us, h1, h2, h3, _⟩ := h
  have e0 := h2.cellAt (k * 3) (by omega)
  have e1 := h2.cellAt (k * 3 + 1) (by omega)
  have e2 := h2.cellAt (k * 3 + 2) (by omega)
  have e0' := zq5f L us k 0 hk (by omega) (by decide)
  rw [Nat.add_zero] at e0'
  rw [e0'] at e0
  rw [zq5f L us k 1 hk (by omega) (by decide)] at e1
  rw [zq5f L us k 2 hk (by omega) (by decide)] at e2
  have hb := h3 k hk (by omega)
  obtain ⟨a, c', e, _⟩ := hb.bys.1.form
  refine ⟨e0, e1, ⟨a, L[k].cells.length, c', e2.trans (by rw [<- e]; rfl), ?_, rfl⟩, h2.frozenAt⟩
  rw [<- e]
  exact hb
theorem ByN.set {S : Nat -> Prop} {B : Option Nat} {w : World} {u : Value} {c : List Int} (h : ByN S B w u c) {a : Addr} (ha : S a.block) (x : Value) : ByN S B (w.setCell a x) u c := fun w' hs hag =>
  h w' (by rw [World.size_setCell] at hs; exact hs) (fun b hb hne hnS => (hag b (by rw [World.size_setCell]; exact hb) hne hnS).trans (Below.heap_setCell w a x b (fun e => hnS (e ▸ ha))))
theorem RuM.set {S : Nat -> Prop} {B : Nat} {v : Value} {L : List RuleZ} {W : World} (h : RuM S B v L W) (hS : ∀ b, S b -> b < B) {a : Addr} (ha : S a.block) (x : Value) : RuM S B v L (W.setCell a x) := by
  obtain ⟨us, h1, h2, h3, h4⟩ := h
  exact ⟨us, h1, ownsRow_setCell_below h2 (hS _ ha) x, fun i a b => (h3 i a b).set ha x, h4⟩
structure MdW (w : World) (V : TabV) (T : TabZ) (Bt Br B : Nat) (v : Value) (L : List RuleZ) (W : World) : Prop where
  tb : BtB w V Bt Br W
  ru : RuM (fun b => b = Bt \/ b = Br) B v L W
  ti : TabIn w V T
  ok : TabOk T
  h1 : w.heap.size <= Bt
  h2 : w.heap.size <= Br
  h3 : Bt < B
  h4 : Br < B
  h5 : Br ≠ Bt
theorem TabIn.agree {w W W' : World} {V : TabV} {T : TabZ} {S : Nat -> Prop} (h : TabIn w V T) (hb : Below w.heap.size w W) (hs : W.heap.size <= W'.heap.size) (ha : ∀ b, b < W.heap.size -> ¬ S b -> W'.heap[b]? = W.heap[b]?) (hS : ∀ b, S b -> w.heap.size <= b) : TabIn W' V T :=
  h.keepsT ⟨Nat.le_trans hb.size hs, fun b c t fz _ hx => by
    have hbl := lt_of_block hx
    rw [ha b (Nat.lt_of_lt_of_le hbl hb.size) (fun e => by have := hS b e; omega), hb.block b hbl]
    exact hx⟩
theorem MdW.out {w W : World} {V : TabV} {T : TabZ} {Bt Br B : Nat} {v : Value} {L : List RuleZ} (h : MdW w V T Bt Br B v L W) (hl : L.length <= 1200) : MdT w Bt Br B v W :=
  ⟨V, T, L, h.tb.1, h.tb.2.1, h.tb.2.2, h.ru, hl, fun W' hs ha => h.ti.agree (S := fun b => b = Bt \/ b = Br) h.tb.1 hs ha (by have := h.h1; have := h.h2; rintro b (rfl | rfl) <;> assumption), h.ok⟩
theorem MdW.below {w W W' : World} {V : TabV} {T : TabZ} {Bt Br B : Nat} {v : Value} {L : List RuleZ} (h : MdW w V T Bt Br B v L W) (hb : Below W.heap.size W W') : MdW w V T Bt Br B v L W' :=
  ⟨⟨h.tb.1.trans (hb.mono h.tb.1.size), zq0 hb h.tb.2.1, zq0 hb h.tb.2.2⟩, h.ru.below hb, h.ti, h.ok, h.h1, h.h2, h.h3, h.h4, h.h5⟩
theorem MdW.put {w W : World} {V : TabV} {T : TabZ} {Bt Br B g n c j : Nat} {L L' : List RuleZ} {x : Value} (h : MdW w V T Bt Br B (.slice (some ⟨g, 0, none⟩) n c) L W) (hr : RuM (fun b => b = Bt \/ b = Br) B (.slice (some ⟨g, 0, none⟩) n c) L' (W.setCell ⟨g, j, none⟩ x)) : MdW w V T Bt Br B (.slice (some ⟨g, 0, none⟩) n c) L' (W.setCell ⟨g, j, none⟩ x) := by
  have hg := h.ru.base.1
  have h1 := h.h1
  have h3 := h.h3
  have h4 := h.h4
  exact ⟨⟨h.tb.1.setCell (by simp only; omega) _, (Below.heap_setCell _ _ _ Bt (by simp only; omega)).trans h.tb.2.1, (Below.heap_setCell _ _ _ Br (by simp only; omega)).trans h.tb.2.2⟩, hr, h.ti, h.ok, h.h1, h.h2, h.h3, h.h4, h.h5⟩
theorem MdW.grow {w W W' : World} {V : TabV} {T : TabZ} {Bt Br B : Nat} {v v' : Value} {L L' : List RuleZ} (h : MdW w V T Bt Br B v L W) (hg : W.grownBy W' v.ownBlock) (hr : RuM (fun b => b = Bt \/ b = Br) B v' L' W') : MdW w V T Bt Br B v' L' W' := by
  have hB : ∀ k, v.ownBlock = some k -> B <= k := fun k e => by
    obtain ⟨us, _, h2, _⟩ := h.ru
    exact (h2.lt k e).1
  have h1 := h.h1
  have h3 := h.h3
  have h4 := h.h4
  exact ⟨⟨h.tb.1.grown hg h.tb.1.size (fun k e => by have := hB k e; omega), (hg.block _ (lt_of_block h.tb.2.1) (fun e => by have := hB _ e.symm; omega)).trans h.tb.2.1, (hg.block _ (lt_of_block h.tb.2.2) (fun e => by have := hB _ e.symm; omega)).trans h.tb.2.2⟩, hr, h.ti, h.ok, h.h1, h.h2, h.h3, h.h4, h.h5⟩
theorem MdW.wh {w W : World} {V : TabV} {T : TabZ} {Bt Br B g n c i : Nat} {L : List RuleZ} (h : MdW w V T Bt Br B (.slice (some ⟨g, 0, none⟩) n c) L W) (hi : i < L.length) (hl : L.length <= 1200) (x : Int) (hx : -9223372036854775808 <= x /\ x <= 9223372036854775807) : MdT w Bt Br B (.slice (some ⟨g, 0, none⟩) n c) (W.setCell ⟨g, i * 3 + 1, none⟩ (.int .i64 x)) := by
  obtain rfl := h.ru.base.2.2
  exact (h.put (h.ru.wh hi x hx)).out (by rw [List.length_set]; exact hl)
theorem MdW.txt {w W : World} {V : TabV} {T : TabZ} {Bt Br B g n c i : Nat} {L : List RuleZ} (h : MdW w V T Bt Br B (.slice (some ⟨g, 0, none⟩) n c) L W) (hi : i < L.length) (hl : L.length <= 1200) (x : ByteArray) (hx : x.size <= 100000) {W' : World} (hb : Below W.heap.size W W') : MdT w Bt Br B (.slice (some ⟨g, 0, none⟩) n c) (W'.setCell ⟨g, i * 3, none⟩ (.string x)) := by
  obtain rfl := h.ru.base.2.2
  have h' := h.below hb
  exact (h'.put (h'.ru.txt hi x hx)).out (by rw [List.length_set]; exact hl)
theorem MdW.cel {w W : World} {V : TabV} {T : TabZ} {Bt Br B g n c i : Nat} {L : List RuleZ} (h : MdW w V T Bt Br B (.slice (some ⟨g, 0, none⟩) n c) L W) (hi : i < L.length) (hl : L.length <= 1200) {xs : List Value} {C : List Int} {q m : Nat} (hx : xs.take q = byC C) (hq : q <= m) (hm : xs.length = m) (hm2 : m <= maxLen) (hr : ∀ x ∈ C, 0 <= x /\ x < 256) :
    MdT w Bt Br B (.slice (some ⟨g, 0, none⟩) n c) ((W.setCell ⟨g, i * 3 + 2, none⟩ (.slice (some ⟨W.heap.size, 0, none⟩) q m)).alloc (.cells xs.toArray 5)) := by
  obtain ⟨hg1, hg2, rfl⟩ := h.ru.base
  have hlB := lt_of_block h.tb.2.1
  have hlR := lt_of_block h.tb.2.2
  rw [<- World.setCell_alloc_past _ _ _ _ hg2]
  have h' := h.below ((Below.refl _ _).alloc (Nat.le_refl _) (.cells xs.toArray 5))
  exact (h'.put (h'.ru.cel hi _ C (ByN.fresh (heap_alloc_new W _) (fun e => by injection e with e; omega) (by omega) hx hq hm hm2 hr))).out (by rw [List.length_set]; exact hl)
theorem MdW.tab {w W W' : World} {V V' : TabV} {T T' : TabZ} {Bt Br B j : Nat} {v u : Value} {L : List RuleZ} (h : MdW w V T Bt Br B v L W) (hb : Below W.heap.size W W') (hl : L.length <= 1200) (hV : (#[V.a, V.b, V.d, V.c, V.n, V.e, V.s] : Array Value).setIfInBounds j u = #[V'.a, V'.b, V'.d, V'.c, V'.n, V'.e, V'.s])
    (hT : ∀ X : World, W'.heap.size <= X.heap.size -> (∀ b, b < W'.heap.size -> ¬ (b = Bt \/ b = Br) -> X.heap[b]? = W'.heap[b]?) -> TabIn X V' T') (hok : TabOk T') : MdT w Bt Br B v (W'.setCell ⟨Bt, j, none⟩ u) := by
  have h' := h.below hb
  have h1 := h.h1
  have h3 := h.h3
  have h4 := h.h4
  refine ⟨V', T', L, h'.tb.1.setCell (by simp only; omega) _, ?_, ?_, h'.ru.set (by rintro b (rfl | rfl) <;> assumption) (.inl rfl) u, hl, fun X hs ha => hT X (by rw [World.size_setCell] at hs; exact hs) (fun b hbl hn => ?_), hok⟩
  · rw [<- hV]
    exact zq12 h'.tb.2.1 j u
  · exact (Below.heap_setCell _ _ _ Br h.h5).trans h'.tb.2.2
  · rw [ha b (by rw [World.size_setCell]; exact hbl) hn]
    exact Below.heap_setCell _ _ _ b (fun e => hn (.inl e))
theorem zq91 {W : World} {base k n : Nat} {e : TypeId} {a : Option Addr} {c : Nat} {xs : List Value} (h : W.ownsRow base e k (.slice a n c) n xs) {m : Nat} (hm : m <= n) : W.ownsRow base e k (.slice a m c) m (xs.take (m * k)) := by
  have hle : m * k <= n * k := Nat.mul_le_mul_right k hm
  refine ⟨by rw [List.length_take, h.1]; omega, ?_⟩
  rcases h.2 with ⟨h1, h2⟩ | ⟨g, cap, cur, h1, hb, hg, hn, hc, hs, ht⟩
  · injection h1 with e1 e2 e3
    subst e1 e3
    have : m = 0 := by omega
    subst this
    exact .inl ⟨rfl, rfl⟩
  · injection h1 with e1 e2 e3
    subst e1 e3
    exact .inr ⟨g, c, cur, rfl, hb, hg, by omega, hc, hs, by rw [<- ht, List.take_take, Nat.min_eq_left hle]⟩
theorem MdW.take {w W : World} {V : TabV} {T : TabZ} {Bt Br B g n c q : Nat} {L : List RuleZ} (h : MdW w V T Bt Br B (.slice (some ⟨g, 0, none⟩) n c) L W) (hq : q <= n) : MdW w V T Bt Br B (.slice (some ⟨g, 0, none⟩) q c) (L.take q) W := by
  obtain rfl := h.ru.base.2.2
  obtain ⟨us, h1, h2, h3, h4⟩ := h.ru
  have hlt : (L.take q).length = q := by rw [List.length_take]; omega
  refine ⟨h.tb, ⟨us.take q, by rw [List.length_take, List.length_take, h1], ?_, fun i a b => ?_, fun r hr => h4 r (List.mem_of_mem_take hr)⟩, h.ti, h.ok, h.h1, h.h2, h.h3, h.h4, h.h5⟩
  · rw [<- rulesC_take L us q h1 hq, hlt]
    exact zq91 h2 hq
  · rw [List.getElem_take, List.getElem_take]
    exact h3 i _ _
theorem MdW.txtA {w W : World} {V : TabV} {T : TabZ} {Bt Br B g n c i : Nat} {L : List RuleZ} (h : MdW w V T Bt Br B (.slice (some ⟨g, 0, none⟩) n c) L W) (hi : i < L.length) (hl : L.length <= 1200) (x : ByteArray) (hx : x.size <= 100000) (o : Obj) : MdT w Bt Br B (.slice (some ⟨g, 0, none⟩) n c) ((W.setCell ⟨g, i * 3, none⟩ (.string x)).alloc o) := by
  rw [<- World.setCell_alloc_past _ _ _ _ h.ru.base.2.1]
  exact h.txt hi hl x hx ((Below.refl _ _).alloc (Nat.le_refl _) o)
theorem MdW.tabA {w W : World} {V V' : TabV} {T T' : TabZ} {Bt Br B j : Nat} {v : Value} {L : List RuleZ} (h : MdW w V T Bt Br B v L W) (hl : L.length <= 1200) {xs : List Value} {C : List Int} {q m : Nat} (hx : xs.take q = byC C) (hq : q <= m) (hm : xs.length = m) (hm2 : m <= maxLen) (hr : ∀ x ∈ C, 0 <= x /\ x < 256)
    (hV : (#[V.a, V.b, V.d, V.c, V.n, V.e, V.s] : Array Value).setIfInBounds j (.slice (some ⟨W.heap.size, 0, none⟩) q m) = #[V'.a, V'.b, V'.d, V'.c, V'.n, V'.e, V'.s]) (hT : ∀ X, TabIn X V T -> BysAt X (.slice (some ⟨W.heap.size, 0, none⟩) q m) C -> TabIn X V' T') (hok : TabOk T') :
    MdT w Bt Br B v ((W.setCell ⟨Bt, j, none⟩ (.slice (some ⟨W.heap.size, 0, none⟩) q m)).alloc (.cells xs.toArray 5)) := by
  have hlB := lt_of_block h.tb.2.1
  have hlR := lt_of_block h.tb.2.2
  have h1 := h.h1
  have h2 := h.h2
  rw [<- World.setCell_alloc_past _ _ _ _ hlB]
  have hb : Below W.heap.size W (W.alloc (.cells xs.toArray 5)) := (Below.refl _ _).alloc (Nat.le_refl _) _
  have h' := h.below hb
  refine h.tab hb hl hV (fun X hs ha => hT X (h.ti.agree (S := fun b => b = Bt \/ b = Br) h'.tb.1 hs ha (by rintro b (rfl | rfl) <;> assumption)) ?_) hok
  refine ByN.fresh (S := fun b => b = Bt \/ b = Br) (B := none) (heap_alloc_new W _) (fun e => by cases e) (by omega) hx hq hm hm2 hr X hs (fun b hb _ hn => ha b hb hn)
theorem zqc0 {x : Int} (h1 : -9223372036854775808 <= x) (h2 : x <= 9223372036854775807) : -9223372036854775808 <= Int.tdiv x 66 /\ Int.tdiv x 66 <= 9223372036854775807 := by
  rcases Int.le_total 0 x with h0 | h0
  · rw [Int.tdiv_eq_ediv_of_nonneg h0]
    omega
  · have e : Int.tdiv x 66 = -((-x) / 66) := by
      rw [<- Int.tdiv_eq_ediv_of_nonneg (by omega : (0 : Int) <= -x), Int.neg_tdiv, Int.neg_neg]
    rw [e]
    omega
theorem own_agree {W X : World} {base k n : Nat} {e : TypeId} {v : Value} {xs : List Value} (h : W.ownsRow base e k v n xs) (ha : ∀ b, base <= b -> b < W.heap.size -> X.heap[b]? = W.heap[b]?) : X.ownsRow base e k v n xs := by
  refine ⟨h.1, ?_⟩
  rcases h.2 with h2 | ⟨g, cap, cur, rfl, hb, hq, r⟩
  · exact .inl h2
  · exact .inr ⟨g, cap, cur, rfl, hb, (ha g hb (lt_of_block hq)).trans hq, r⟩
theorem MdW.cut {w W : World} {V : TabV} {T : TabZ} {Bt Br B g n c i : Nat} {L : List RuleZ} (h : MdW w V T Bt Br B (.slice (some ⟨g, 0, none⟩) n c) L W) (hi : i < L.length) (hc : n <= c) :
    ∃ xs ys, W.ownsRow B 59 3 (.slice (some ⟨g, 0, none⟩) i c) i xs /\ (∀ vv, Value.slice (if c = i + 1 then some ⟨g, 0, none⟩ else (some (⟨g, 0, none⟩ : Addr)).map (·.add ((i + 1) * 3))) (n - (i + 1)) (c - (i + 1)) = vv -> Rd W (· = 59) 3 vv (n - (i + 1)) ys) /\ (∀ u ∈ ys, u.oneCell' = true) /\
    ∀ v' W', W'.ownsRow B 59 3 v' (i + (n - (i + 1))) (xs ++ ys) -> W.grownBy W' (some g) -> (v'.ownBlock = some g \/ v'.ownBlock = some W.heap.size) -> ∃ L', L'.length <= L.length /\ MdW w V T Bt Br B v' L' W' := by
  obtain rfl := h.ru.base.2.2
  obtain ⟨us, h1, h2, h3, h4⟩ := h.ru
  have hone := zqb1 L us (fun u hu => by
    obtain ⟨j, hj, rfl⟩ := List.getElem_of_mem hu
    obtain ⟨a', c', e, _⟩ := (h3 j (by omega) hj).bys.1.form
    rw [e]
    rfl)
  have hp := Rd.part (Rd.of_own h2) (l := i + 1) (hh := L.length) (m := c) (by omega) (Nat.le_refl _) hc (Nat.le_refl _)
  have e1 : List.take ((L.length - (i + 1)) * 3) (List.drop ((i + 1) * 3) (zq10 L us)) = zq10 (L.drop (i + 1)) (us.drop (i + 1)) := by
    rw [rulesC_drop L us (i + 1) h1 (by omega), List.take_of_length_le]
    rw [zq89 _ _ (by rw [List.length_drop, List.length_drop, h1]), List.length_drop]
    exact Nat.le_refl _
  rw [e1] at hp
  refine ⟨zq10 (L.take i) (us.take i), zq10 (L.drop (i + 1)) (us.drop (i + 1)), ?_, fun vv hvv => hvv ▸ hp, fun u hu => ?_, fun v' W' ho hg hv => ⟨L.take i ++ L.drop (i + 1), by rw [List.length_append, List.length_take, List.length_drop]; omega, h.grow hg ?_⟩⟩
  · rw [<- rulesC_take L us i h1 (by omega)]
    exact zq91 h2 (by omega)
  · rw [<- rulesC_drop L us (i + 1) h1 (by omega)] at hu
    exact hone u (List.mem_of_mem_drop hu)
  · refine RuM.push (v := .slice (some ⟨g, 0, none⟩) L.length c) (us := us.take i) (L := L.take i) (un := us.drop (i + 1)) (N := L.drop (i + 1)) (by rw [List.length_take, List.length_take, h1]) (fun j a b => ?_) (fun r hr => h4 r (List.mem_of_mem_take hr)) (by rw [List.length_drop, List.length_drop, h1]) (fun j a b => ?_) (fun r hr => h4 r (List.mem_of_mem_drop hr)) hg hv ?_
    · rw [List.getElem_take, List.getElem_take]
      exact h3 j _ _
    · rw [List.getElem_drop, List.getElem_drop]
      exact h3 (i + 1 + j) _ _
    · rw [List.length_take, List.length_drop, Nat.min_eq_left (by omega)]
      exact ho
theorem MdW.push1 {w W : World} {V : TabV} {T : TabZ} {Bt Br B : Nat} {v : Value} {L : List RuleZ} (h : MdW w V T Bt Br B v L W) (t : ByteArray) (x : Int) (u : Value) (C : List Int) (hu : ByN (fun b => b = Bt \/ b = Br) v.ownBlock W u C) (hok : zq3e ⟨t, x, C⟩) :
    ∃ xs, W.ownsRow B 59 3 v L.length xs /\ ∀ v' W', W'.ownsRow B 59 3 v' (L.length + 1) (xs ++ [.string t, .int .i64 x, u]) -> W.grownBy W' v.ownBlock -> (v'.ownBlock = v.ownBlock \/ v'.ownBlock = some W.heap.size) -> MdW w V T Bt Br B v' (L ++ [⟨t, x, C⟩]) W' := by
  obtain ⟨us, h1, h2, h3, h4⟩ := h.ru
  refine ⟨zq10 L us, h2, fun v' W' ho hg hv => h.grow hg ?_⟩
  refine RuM.push (un := [u]) (N := [⟨t, x, C⟩]) h1 h3 h4 rfl (fun j a b => ?_) (fun r hr => ?_) hg hv ho
  · have : j = 0 := by simp at a; omega
    subst this
    exact hu
  · rw [List.mem_singleton] at hr
    subst hr
    exact hok
def LpT (w : World) (V : TabV) (T : TabZ) (Bt Br B n : Nat) (u v : Value) (W : World) : Prop := ∃ (j : Nat) (L : List RuleZ), j <= 97 /\ u = .int .i64 (j : Nat) /\ MdW w V T Bt Br B v L W /\ L.length = n + j
theorem MdW.form {w W : World} {V : TabV} {T : TabZ} {Bt Br B : Nat} {v : Value} {L : List RuleZ} (h : MdW w V T Bt Br B v L W) (hL : 0 < L.length) : ∃ g c, v = .slice (some ⟨g, 0, none⟩) L.length c /\ L.length <= c /\ c <= maxLen /\ B <= g /\ g < W.heap.size := h.ru.form hL
theorem conv3 (x y z : Int) (W : World) (B : Nat) (h0 : W.cell? ⟨B, 0, none⟩ = some (.int .u8 x)) (h1 : W.cell? ⟨B, 1, none⟩ = some (.int .u8 y)) (h2 : W.cell? ⟨B, 2, none⟩ = some (.int .u8 z)) : (convert 23 9 (.slice (some ⟨B, 0, none⟩) 3 3)).run Tryz.prog W = .ok (.string ([x, y, z].foldl (fun r n => r.push (UInt8.ofNat n.toNat)) ByteArray.empty)) W := by
  rw [run_convert_bytes_string (P := Tryz.prog) W 23 9 5 _ _ _ (by kernel_rfl) (by kernel_rfl) (by kernel_rfl)]
  exact run_bytesToString (P := Tryz.prog) W ⟨B, 0, none⟩ 3 3 [x, y, z] (by go_simp)
theorem size3 (x y z : Int) : ([x, y, z].foldl (fun r n => r.push (UInt8.ofNat n.toNat)) ByteArray.empty).size = 3 := by
  simp only [List.foldl_cons, List.foldl_nil, ByteArray.size_push]
  rfl
theorem MdW.push2 {w W : World} {V : TabV} {T : TabZ} {Bt Br B : Nat} {v : Value} {L : List RuleZ} (h : MdW w V T Bt Br B v L W) (o1 : Obj) (t : ByteArray) (ht : t.size <= 100000) :
    ∃ xs, (((W.alloc o1).alloc (.cells #[.int .u8 7] 5)).alloc (.cells #[.string t, .int .i64 0, .slice (some ⟨W.heap.size + 1, 0, none⟩) 1 1] 59)).ownsRow B 59 3 v L.length xs /\ ∀ v' W', W'.ownsRow B 59 3 v' (L.length + 1) (xs ++ [.string t, .int .i64 0, .slice (some ⟨W.heap.size + 1, 0, none⟩) 1 1]) ->
      (((W.alloc o1).alloc (.cells #[.int .u8 7] 5)).alloc (.cells #[.string t, .int .i64 0, .slice (some ⟨W.heap.size + 1, 0, none⟩) 1 1] 59)).grownBy W' v.ownBlock -> (v'.ownBlock = v.ownBlock \/ v'.ownBlock = some (((W.alloc o1).alloc (.cells #[.int .u8 7] 5)).alloc (.cells #[.string t, .int .i64 0, .slice (some ⟨W.heap.size + 1, 0, none⟩) 1 1] 59)).heap.size) -> MdW w V T Bt Br B v' (L ++ [⟨t, 0, [7]⟩]) W' := by
  have hlB := lt_of_block h.tb.2.1
  have hlR := lt_of_block h.tb.2.2
  have hv : v.ownBlock ≠ some (W.heap.size + 1) := fun e => by
    obtain ⟨us, _, h2, _⟩ := h.ru
    have := (h2.lt _ e).2
    omega
  have hb1 : Below W.heap.size W (W.alloc o1) := (Below.refl _ _).alloc (Nat.le_refl _) _
  have hb2 : Below W.heap.size W ((W.alloc o1).alloc (.cells #[.int .u8 7] 5)) := hb1.alloc (by rw [World.size_alloc]; omega) _
  have hb3 : Below W.heap.size W (((W.alloc o1).alloc (.cells #[.int .u8 7] 5)).alloc (.cells #[.string t, .int .i64 0, .slice (some ⟨W.heap.size + 1, 0, none⟩) 1 1] 59)) := hb2.alloc (by simp only [World.size_alloc]; omega) _
  have hc : (((W.alloc o1).alloc (.cells #[.int .u8 7] 5)).alloc (.cells #[.string t, .int .i64 0, .slice (some ⟨W.heap.size + 1, 0, none⟩) 1 1] 59)).heap[W.heap.size + 1]? = some (.cells #[.int .u8 7] 5) := by
    have := heap_alloc_new (W.alloc o1) (.cells #[.int .u8 7] 5)
    rw [World.size_alloc] at this
    exact zq0 ((Below.refl _ _).alloc (Nat.le_refl _) _) this
  exact (h.below hb3).push1 t 0 (.slice (some ⟨W.heap.size + 1, 0, none⟩) 1 1) [7] (ByN.fresh (xs := [.int .u8 7]) hc hv (by omega) rfl (by decide) rfl (by decide) (by intro x hx; simp at hx; omega)) ⟨ht, (by decide : (-9223372036854775808 : Int) <= 0), (by decide : (0 : Int) <= 9223372036854775807)⟩
theorem RuM.turn {S : Nat -> Prop} {B Bt : Nat} {v : Value} {L : List RuleZ} {W F : World} (h : RuM S B v L W) (hS : ∀ b, S b -> b < B) (ht : Turned (fun b => b = Bt) W F) (hB : S Bt) : RuM S B v L F := by
  obtain ⟨us, h1, h2, h3, h4⟩ := h
  refine ⟨us, h1, own_agree h2 (fun b hb hbl => ht.block b hbl (fun e => by have := hS _ hB; omega)), fun i a b => fun w' hs ha => h3 i a b w' (Nat.le_trans ht.size hs) (fun c hc hne hnS => ?_), h4⟩
  exact (ha c (Nat.lt_of_lt_of_le hc ht.size) hne hnS).trans (ht.block c hc (fun e => hnS (e ▸ hB)))
theorem MdW.turn {w W F : World} {V V' : TabV} {T T' : TabZ} {Bt Br B : Nat} {v : Value} {L : List RuleZ} (h : MdW w V T Bt Br B v L W) (ht : Turned (fun b => b = Bt) W F) (hF : F.heap[Bt]? = some (.cells #[V'.a, V'.b, V'.d, V'.c, V'.n, V'.e, V'.s] 29)) (hl : L.length <= 1200)
    (hT : ∀ X, TabIn X V T -> (∀ b, W.heap.size <= b -> b < F.heap.size -> X.heap[b]? = F.heap[b]?) -> TabIn X V' T') (hok : TabOk T') : MdT w Bt Br B v F := by
  have h1 := h.h1
  have h2 := h.h2
  have h3 := h.h3
  have h4 := h.h4
  have hlB := lt_of_block h.tb.2.1
  have hlR := lt_of_block h.tb.2.2
  refine ⟨V', T', L, ⟨ht.os.trans h.tb.1.os, ht.tape.trans h.tb.1.tape, ht.output.trans h.tb.1.output, Nat.le_trans h.tb.1.size ht.size, fun b hb => (ht.block b (Nat.lt_of_lt_of_le hb h.tb.1.size) (fun e => by omega)).trans (h.tb.1.block b hb)⟩, hF, (ht.block _ hlR h.h5).trans h.tb.2.2, h.ru.turn (by rintro b (rfl | rfl) <;> assumption) ht (.inl rfl), hl, fun X hs ha => hT X ?_ (fun b hb hbl => ha b hbl (by rintro (rfl | rfl) <;> omega)), hok⟩
  refine h.ti.agree (S := fun b => b = Bt \/ b = Br) h.tb.1 (Nat.le_trans ht.size hs) (fun b hb hn => ?_) (by rintro b (rfl | rfl) <;> assumption)
  exact (ha b (Nat.lt_of_lt_of_le hb ht.size) hn).trans (ht.block b hb (fun e => hn (.inl e)))
theorem MdW.digits {w W F : World} {V : TabV} {T : TabZ} {Bt Br B : Nat} {v u : Value} {L : List RuleZ} {C : List Int} (h : MdW w V T Bt Br B v L W) (ht : Turned (fun b => b = Bt) W F) (hF : F.heap[Bt]? = some (.cells #[V.a, V.b, u, V.c, V.n, V.e, V.s] 29)) (hl : L.length <= 1200)
    (hu : F.ownsRow W.heap.size 5 1 u C.length (byC C)) (hr : ∀ x ∈ C, 0 <= x /\ x < 256) : MdT w Bt Br B v F :=
  h.turn (V' := ⟨V.a, V.b, u, V.c, V.n, V.e, V.s⟩) (T' := ⟨T.l0, T.l1, C, T.cp, T.nm, T.en, T.sw⟩) ht hF hl (fun _ h1 h2 => ⟨h1.r0, h1.r1, BysAt.of_own (own_agree hu h2) hr, h1.cp, h1.nm, h1.en, h1.sw⟩) ⟨h.ok.r0, h.ok.r1, h.ok.n0, h.ok.n1⟩
theorem zqab {W : World} {base k n : Nat} {e : TypeId} {v : Value} {xs : List Value} (h : W.ownsRow base e k v n xs) (hn : 0 < n) : ∃ g c, v = .slice (some ⟨g, 0, none⟩) n c /\ n <= c /\ c <= maxLen /\ base <= g /\ g < W.heap.size := by
  rcases h.2 with ⟨_, e1⟩ | ⟨g, cap, cur, e1, hb, hg, h3, h4, _⟩
  · omega
  · exact ⟨g, cap, e1, h3, h4, hb, lt_of_block hg⟩
end Go.Proofs.YtcfjepcflanjbaaGreat
