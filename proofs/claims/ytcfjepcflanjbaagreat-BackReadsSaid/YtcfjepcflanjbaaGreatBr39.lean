/- Contract: the maker of tables. -/
import Derived.Test.YtcfjepcflanjbaaGreatBr02
import Derived.Test.YtcfjepcflanjbaaGreatBr37
import Derived.Test.YtcfjepcflanjbaaGreatBr38
namespace Go.Proofs.YtcfjepcflanjbaaGreat
open Go.RowKit Go.Lab Go.Shelf
set_option maxRecDepth 100000
def mrkB (i : Nat) : ByteArray := b6.extract i (i + 1)
structure RuS (base : Nat) (W : World) (v : Value) (L : List RuleZ) (na nb : Nat) : Prop where
  at' : RulesT base W v L
  right : ∀ r ∈ L, zqf r = true
  lett : ∀ j, j < na -> ∃ r ∈ L, r.text = lttB j /\ r.wh = 0
  mark : ∀ j, j < nb -> ∃ r ∈ L, r.text = mrkB j /\ r.wh = 0
theorem right_ltt : ∀ i : Fin 26, lowsB (lttB i.val) = true /\ (lttB i.val).size = 1 := by decide +kernel
theorem right_mrk : ∀ i : Fin 6, ∀ c : List Int, zqc c 1 4 = true -> zqf ⟨mrkB i.val, 0, c⟩ = true := by
  intro i c hc
  have h : ∀ i : Fin 6, decide (1 <= (mrkB i.val).size) && (decide ((mrkB i.val).size <= 8) && markB ⟨mrkB i.val, 0, []⟩) = true := by decide +kernel
  have h2 := h i
  simp only [Bool.and_eq_true, decide_eq_true_eq] at h2
  unfold zqf
  simp only [Bool.and_eq_true, Bool.or_eq_true, decide_eq_true_eq]
  exact ⟨h2.1, h2.2.1, by decide, by decide, hc, .inr h2.2.2⟩
theorem zq79 {c : Int} (h1 : 1 <= c) (h2 : c <= 63) : zqc [c] 1 4 = true := by
  unfold zqc cellB
  simp
  omega
theorem right_letter {i : Nat} (hi : i < 26) {c : Int} (h1 : 1 <= c) (h2 : c <= 63) : zqf ⟨lttB i, 0, [c]⟩ = true := by
  have h := right_ltt ⟨i, hi⟩
  simp only at h
  unfold zqf
  simp only [Bool.and_eq_true, Bool.or_eq_true, decide_eq_true_eq]
  exact ⟨by omega, by omega, by decide, by decide, zq79 h1 h2, .inl h.1⟩
theorem RuS.below {base : Nat} {W W' : World} {v : Value} {L : List RuleZ} {na nb : Nat} (h : RuS base W v L na nb) (hb : Below W.heap.size W W') : RuS base W' v L na nb := ⟨h.at'.below hb, h.right, h.lett, h.mark⟩
theorem zqcf {base : Nat} {W6 w7 : World} {v v' u : Value} {L : List RuleZ} {us : List Value} {na nb na' nb' : Nat} {r : RuleZ} (h : RuS base W6 v L na nb) (hl : us.length = L.length) (hc : ∀ i (h : i < L.length) (h' : i < us.length), ByT W6 us[i] L[i].cells) (hown : W6.ownsRow base 59 3 v L.length (zq10 L us)) (hu : ByT W6 u r.cells) (hg : W6.grownBy w7 v.ownBlock) (ho : w7.ownsRow base 59 3 v' (L.length + 1) (zq10 L us ++ ruleC r u)) (hr : zqf r = true)
    (ha : ∀ j, j < na' -> j < na \/ (r.text = lttB j /\ r.wh = 0)) (hm : ∀ j, j < nb' -> j < nb \/ (r.text = mrkB j /\ r.wh = 0)) : RuS base w7 v' (L ++ [r]) na' nb' := by
  refine ⟨zq7a (us2 := [u]) hl hc rfl (fun i hi hi' => ?_) hown hg (by simpa [zq10] using ho), fun x hx => ?_, fun j hj => ?_, fun j hj => ?_⟩
  · have : i = 0 := by simp at hi; omega
    subst this
    exact hu
  · rcases List.mem_append.1 hx with hx | hx
    · exact h.right x hx
    · rw [List.mem_singleton] at hx
      rw [hx]
      exact hr
  · rcases ha j hj with h1 | h1
    · obtain ⟨x, hx, e⟩ := h.lett j h1
      exact ⟨x, List.mem_append_left _ hx, e⟩
    · exact ⟨r, by simp, h1⟩
  · rcases hm j hj with h1 | h1
    · obtain ⟨x, hx, e⟩ := h.mark j h1
      exact ⟨x, List.mem_append_left _ hx, e⟩
    · exact ⟨r, by simp, h1⟩
def MadeO (L : List RuleZ) : Prop := ∃ L' : List RuleZ, L = onceZ L' /\ L'.length <= 90 /\ (∀ r ∈ L', zqf r = true) /\ (∀ j, j < 26 -> ∃ r ∈ L', r.text = lttB j /\ r.wh = 0) /\ ∀ j, j < 6 -> ∃ r ∈ L', r.text = mrkB j /\ r.wh = 0
def zqd9 : List ByteArray := [⟨#[116, 104]⟩, ⟨#[101, 114]⟩, ⟨#[116, 104, 101]⟩, ⟨#[105, 110, 103]⟩, ⟨#[97, 110, 100]⟩, ⟨#[97, 110]⟩, ⟨#[115, 116]⟩, ⟨#[105, 110]⟩, ⟨#[111, 117]⟩, ⟨#[116, 105, 111, 110]⟩, ⟨#[98, 101]⟩, ⟨#[98, 117, 116]⟩]
def txt12 (j : Nat) : ByteArray := zqd9.getD j ByteArray.empty
theorem right_txt : ∀ i : Fin 12, lowsB (txt12 i.val) = true /\ 1 <= (txt12 i.val).size /\ (txt12 i.val).size <= 8 := by decide +kernel
theorem right_more {j : Nat} (hj : j < 12) {wh : Int} (h1 : 0 <= wh) (h2 : wh <= 3) {c : List Int} (hc : zqc c 1 4 = true) : zqf ⟨txt12 j, wh, c⟩ = true := by
  have h := right_txt ⟨j, hj⟩
  simp only at h
  unfold zqf
  simp only [Bool.and_eq_true, Bool.or_eq_true, decide_eq_true_eq]
  exact ⟨h.2.1, h.2.2, h1, h2, hc, .inl h.1⟩
theorem zq3f {n d : Int} (hd : 2 <= d) (h1 : -9223372036854775808 <= n) (h2 : n <= 9223372036854775807) : -4611686018427387904 <= n.tdiv d /\ n.tdiv d <= 4611686018427387904 := by
  have key : ∀ m : Int, 0 <= m -> m <= 9223372036854775808 -> 0 <= m / d /\ m / d <= 4611686018427387904 := fun m h0 hm => by
    have hn := Int.ediv_nonneg h0 (by omega : 0 <= d)
    have hm2 := Int.ediv_mul_le m (by omega : d ≠ 0)
    have h3 : m / d * 2 <= m / d * d := Int.mul_le_mul_of_nonneg_left hd hn
    omega
  rcases Int.le_total 0 n with h | h
  · rw [Int.tdiv_eq_ediv_of_nonneg h]
    have := key n h (by omega)
    omega
  · obtain ⟨m, rfl⟩ : ∃ m, n = -m := ⟨-n, by omega⟩
    rw [Int.neg_tdiv, Int.tdiv_eq_ediv_of_nonneg (by omega)]
    have := key m (by omega) (by omega)
    omega
abbrev vnil : Value := .slice none 0 0
theorem zq53 (t : Array Value) (ds : List Deferred) (h : t.size = 182) : ({ tmps := t, defers := ds } : Act) = { tmps := #[slot t 0, slot t 1, slot t 2, slot t 3, slot t 4, slot t 5, slot t 6, slot t 7, slot t 8, slot t 9, slot t 10, slot t 11, slot t 12, slot t 13, slot t 14, slot t 15, slot t 16, slot t 17, slot t 18, slot t 19, slot t 20, slot t 21, slot t 22, slot t 23, slot t 24, slot t 25, slot t 26, slot t 27, slot t 28, slot t 29, slot t 30, slot t 31, slot t 32, slot t 33, slot t 34, slot t 35, slot t 36, slot t 37, slot t 38, slot t 39, slot t 40, slot t 41, slot t 42, slot t 43, slot t 44, slot t 45, slot t 46, slot t 47, slot t 48, slot t 49, slot t 50, slot t 51, slot t 52, slot t 53, slot t 54, slot t 55, slot t 56, slot t 57, slot t 58, slot t 59, slot t 60, slot t 61, slot t 62, slot t 63, slot t 64, slot t 65, slot t 66, slot t 67, slot t 68, slot t 69, slot t 70, slot t 71, slot t 72, slot t 73, slot t 74, slot t 75, slot t 76, slot t 77, slot t 78, slot t 79, slot t 80, slot t 81, slot t 82, slot t 83, slot t 84, slot t 85, slot t 86, slot t 87, slot t 88, slot t 89, slot t 90, slot t 91, slot t 92, slot t 93, slot t 94, slot t 95, slot t 96, slot t 97, slot t 98, slot t 99, slot t 100, slot t 101, slot t 102, slot t 103, slot t 104, slot t 105, slot t 106, slot t 107, slot t 108, slot t 109, slot t 110, slot t 111, slot t 112, slot t 113, slot t 114, slot t 115, slot t 116, slot t 117, slot t 118, slot t 119, slot t 120, slot t 121, slot t 122, slot t 123, slot t 124, slot t 125, slot t 126, slot t 127, slot t 128, slot t 129, slot t 130, slot t 131, slot t 132, slot t 133, slot t 134, slot t 135, slot t 136, slot t 137, slot t 138, slot t 139, slot t 140, slot t 141, slot t 142, slot t 143, slot t 144, slot t 145, slot t 146, slot t 147, slot t 148, slot t 149, slot t 150, slot t 151, slot t 152, slot t 153, slot t 154, slot t 155, slot t 156, slot t 157, slot t 158, slot t 159, slot t 160, slot t 161, slot t 162, slot t 163, slot t 164, slot t 165, slot t 166, slot t 167, slot t 168, slot t 169, slot t 170, slot t 171, slot t 172, slot t 173, slot t 174, slot t 175, slot t 176, slot t 177, slot t 178, slot t 179, slot t 180, slot t 181], defers := ds } :=
  (congrArg (fun x => ({ tmps := x, defers := ds } : Act)) (zq1e h)).trans (by kernel_rfl)
def VMt (w0 : World) (Tb : Nat) (kv : Value) (wr : World) : Prop :=
  ∃ (k : Nat) (va vb : Value) (La Lb : List RuleZ), k <= 2 /\ kv = .int .i64 (k : Nat) /\ TbS w0 Tb va vb vnil vnil vnil vnil vnil La Lb wr /\ (1 <= k -> MadeO La) /\ (2 <= k -> MadeO Lb)
def VMl (w1 : World) (n0 na0 : Nat) (mark : Bool) (iv v : Value) (top : Nat) (wr : World) : Prop :=
  ∃ (i : Nat) (L : List RuleZ), i <= top /\ iv = .int .i64 (i : Nat) /\ RuS w1.heap.size wr v L (if mark = true then na0 else i) (if mark = true then i else 0) /\ L.length = n0 + i /\ Below w1.heap.size w1 wr
def MtR (wr0 : World) (n : Int) (k Rb Tb Bt tp i : Nat) (v5 : Value) (Q : Nat) (u : Value) (txt : ByteArray) (wh : Int) (cl : List Int) : Act -> World -> Prop := fun a W => a.tmps.size = 182 /\ a.defers = [] /\ slot a.tmps 0 = .int .i64 n /\ slot a.tmps 2 = .pointer (some ⟨Rb, 0, none⟩) /\ slot a.tmps 3 = .pointer (some ⟨Tb, 0, none⟩) /\ slot a.tmps 4 = .int .i64 (k : Nat) /\ slot a.tmps 5 = v5 /\ slot a.tmps 9 = .slice (some ⟨Bt, 0, none⟩) 12 12 /\ slot a.tmps 10 = .int .i64 (tp : Nat) /\ slot a.tmps 11 = .int .i64 (i : Nat) /\ slot a.tmps 13 = .pointer (some ⟨Q, 0, none⟩) /\ Below wr0.heap.size wr0 W /\ W.heap[Q]? = some (.cells #[.string txt, .int .i64 wh, u] 59) /\ ByT W u cl /\ wr0.heap.size <= Q
def MtX (wr0 : World) (n : Int) (k Rb Tb Bt tp i : Nat) (v5 : Value) (txt : ByteArray) (a : Act) (W : World) : Prop :=
  ∃ (Q : Nat) (u : Value) (wh : Int) (cl : List Int), 0 <= wh /\ wh <= 3 /\ zqc cl 1 4 = true /\ MtR wr0 n k Rb Tb Bt tp i v5 Q u txt wh cl a W
theorem set3_heap {W : World} {b : Nat} {u0 u1 u2 : Value} {t : TypeId} (h : W.heap[b]? = some (.cells #[u0, u1, u2] t)) (v0 v1 v2 : Value) : (((W.setCell ⟨b, 0, none⟩ v0).setCell ⟨b, 1, none⟩ v1).setCell ⟨b, 2, none⟩ v2).heap[b]? = some (.cells #[v0, v1, v2] t) := by
  have h0 := zq12 h 0 v0
  rw [show (#[u0, u1, u2] : Array Value).setIfInBounds 0 v0 = #[v0, u1, u2] from rfl] at h0
  have h1 := zq12 h0 1 v1
  rw [show (#[v0, u1, u2] : Array Value).setIfInBounds 1 v1 = #[v0, v1, u2] from rfl] at h1
  have h2 := zq12 h1 2 v2
  rw [show (#[v0, v1, u2] : Array Value).setIfInBounds 2 v2 = #[v0, v1, v2] from rfl] at h2
  exact h2
theorem set3_keeps {W : World} {b : Nat} {cur : Array Value} {t : TypeId} {f : Nat × Nat} (h : W.heap[b]? = some (.cells cur t f)) (v0 v1 v2 : Value) : Keeps (fun x => x ≠ t) W (((W.setCell ⟨b, 0, none⟩ v0).setCell ⟨b, 1, none⟩ v1).setCell ⟨b, 2, none⟩ v2) :=
  zq70 ((((Turned.refl (fun x => x = b) W).setCell ⟨b, 0, none⟩ v0 (.inr rfl)).setCell ⟨b, 1, none⟩ v1 (.inr rfl)).setCell ⟨b, 2, none⟩ v2 (.inr rfl)) h
theorem mt_set {wr wB : World} {Q : Nat} {txt : ByteArray} {wh : Int} {u : Value} {l : List Int} (hb : Below wr.heap.size wr wB) (hq : wB.heap[Q]? = some (.cells #[.string txt, .int .i64 wh, u] 59)) (hQ : wr.heap.size <= Q) (hl : l.length <= 1000) (hr : ∀ x ∈ l, 1 <= x /\ x <= 63) :
    Below wr.heap.size wr ((wB.setCell ⟨Q, 2, none⟩ (.slice (some ⟨wB.heap.size, 0, none⟩) l.length l.length)).alloc (.cells (byC l).toArray 5)) /\ ((wB.setCell ⟨Q, 2, none⟩ (.slice (some ⟨wB.heap.size, 0, none⟩) l.length l.length)).alloc (.cells (byC l).toArray 5)).heap[Q]? = some (.cells #[.string txt, .int .i64 wh, .slice (some ⟨wB.heap.size, 0, none⟩) l.length l.length] 59) /\ ByT ((wB.setCell ⟨Q, 2, none⟩ (.slice (some ⟨wB.heap.size, 0, none⟩) l.length l.length)).alloc (.cells (byC l).toArray 5)) (.slice (some ⟨wB.heap.size, 0, none⟩) l.length l.length) l := by
  have hs : (wB.setCell ⟨Q, 2, none⟩ (.slice (some ⟨wB.heap.size, 0, none⟩) l.length l.length)).heap.size = wB.heap.size := by simp [World.setCell]
  have h2 := zq12 hq 2 (.slice (some ⟨wB.heap.size, 0, none⟩) l.length l.length)
  have hn := heap_alloc_new (wB.setCell ⟨Q, 2, none⟩ (.slice (some ⟨wB.heap.size, 0, none⟩) l.length l.length)) (.cells (byC l).toArray 5)
  rw [hs] at hn
  exact ⟨(hb.setCell (p := ⟨Q, 2, none⟩) hQ _).alloc (by rw [hs]; exact hb.size) _, (Below.heap_alloc _ _ _ (by rw [hs]; exact lt_of_block hq)).trans h2, zq6b l hn hl hr⟩
theorem TbS.setA {w0 W : World} {Tb m : Nat} {va vb d c n e s u : Value} {La Lb L' : List RuleZ} (h : TbS w0 Tb va vb d c n e s La Lb W) (hu : RulesT w0.heap.size W u L') (hn : ∀ g, u.ownBlock = some g -> m <= g) (hv : ∀ g, vb.ownBlock = some g -> g < m) : TbS w0 Tb u vb d c n e s L' Lb (W.setCell ⟨Tb, 0, none⟩ u) := by
  have hk : Keeps (fun t => t ≠ 29) W (W.setCell ⟨Tb, 0, none⟩ u) := Keeps.setCell (a := ⟨Tb, 0, none⟩) h.box (fun t ht => ht) _
  exact ⟨h.low.setCell (p := ⟨Tb, 0, none⟩) h.lo _, h.lo, zq12 h.box 0 u, hu.keeps hk (by decide) (by decide), h.rb.keeps hk (by decide) (by decide), fun g e1 e2 => by
    have h1 := hn g e1
    have h2 := hv g e2
    omega⟩
theorem TbS.setB {w0 W : World} {Tb m : Nat} {va vb d c n e s u : Value} {La Lb L' : List RuleZ} (h : TbS w0 Tb va vb d c n e s La Lb W) (hu : RulesT w0.heap.size W u L') (hn : ∀ g, u.ownBlock = some g -> m <= g) (hv : ∀ g, va.ownBlock = some g -> g < m) : TbS w0 Tb va u d c n e s La L' (W.setCell ⟨Tb, 1, none⟩ u) := by
  have hk : Keeps (fun t => t ≠ 29) W (W.setCell ⟨Tb, 1, none⟩ u) := Keeps.setCell (a := ⟨Tb, 1, none⟩) h.box (fun t ht => ht) _
  exact ⟨h.low.setCell (p := ⟨Tb, 1, none⟩) h.lo _, h.lo, zq12 h.box 1 u, h.ra.keeps hk (by decide) (by decide), hu.keeps hk (by decide) (by decide), fun g e1 e2 => by
    have h1 := hn g e2
    have h2 := hv g e1
    omega⟩
theorem rulesT_base {b1 b2 : Nat} {W : World} {v : Value} {L : List RuleZ} (h : RulesT b1 W v L) (hb : b2 <= b1) : RulesT b2 W v L := by
  obtain ⟨us, h1, h2, h3⟩ := h
  exact ⟨us, h1, zqca h2 hb, h3⟩
theorem once_T {base : Nat} {wr : World} {v : Value} {L : List RuleZ} {na nb : Nat} (h : RuS base wr v L na nb) (hl : L.length <= 1000) : Calls Tryz.prog 23 #[v] wr fun e w' => ∃ a m c, e = .returned (.slice a m c) /\ RulesT wr.heap.size w' (.slice a m c) (onceZ L) /\ Below wr.heap.size wr w' := by
  obtain ⟨us, h1, h2, h3⟩ := h.at'
  refine (once_any (fun u r => ByT wr u r.cells) v L wr ⟨us, h1, (Rd.of_own h2).mono (fun _ _ => trivial), fun i a b => ⟨(h3 i a b).at, h3 i a b⟩⟩ (fun r hr => zqbb (h.right r hr)) (by omega)).mono ?_
  rintro e w' ⟨u, rfl, ⟨us', g1, g2, g3⟩, hb⟩
  obtain ⟨a, c, hu, _, _⟩ := (Rd.of_own g2).form
  subst hu
  exact ⟨a, _, c, rfl, ⟨us', g1, g2, fun i p q => (g3 i p q).2.below hb⟩, hb⟩
structure TabG (T : TabZ) : Prop where
  l0 : MadeO T.l0
  l1 : MadeO T.l1
  dg : zqc T.dg 10 10 = true
  cp : zqc T.cp 1 4 = true
  nm : zqc T.nm 1 4 = true
  en : zqc T.en 1 4 = true
  sw : zqc T.sw 1 4 = true
theorem cellsB_of {l : List Int} {a b : Nat} (h : ∀ x ∈ l, 1 <= x /\ x <= 63) (ha : a <= l.length) (hb : l.length <= b) : zqc l a b = true := by
  unfold zqc
  rw [decide_eq_true ha, decide_eq_true hb, Bool.and_true, Bool.and_true, List.all_eq_true]
  intro x hx
  have := h x hx
  unfold cellB
  rw [decide_eq_true this.1, decide_eq_true this.2]
  rfl
theorem zq8c {c d : Int} (h1 : 1 <= c) (h2 : c <= 63) (h3 : 1 <= d) (h4 : d <= 63) : zqc [c, d] 1 4 = true := by
  unfold zqc cellB
  simp
  omega
def VDg (w2 : World) (Tb : Nat) (va vb : Value) (iv : Value) (wr : World) : Prop :=
  ∃ (i : Nat) (vd : Value) (l : List Int), i <= 10 /\ iv = .int .i64 (i : Nat) /\ wr.heap[Tb]? = some (.cells #[va, vb, vd, vnil, vnil, vnil, vnil] 29) /\ wr.ownsRow w2.heap.size 5 1 vd i (byC l) /\ l.length = i /\ (∀ x ∈ l, 1 <= x /\ x <= 63) /\ Turned (fun b => b = Tb) w2 wr
def MtF (n : Int) (Rb Tb : Nat) : Act -> World -> Prop := fun a _ => a.tmps.size = 182 /\ a.defers = [] /\ slot a.tmps 0 = .int .i64 n /\ slot a.tmps 2 = .pointer (some ⟨Rb, 0, none⟩) /\ slot a.tmps 3 = .pointer (some ⟨Tb, 0, none⟩) /\ True
def MtZ (X0 : World) (n : Int) (Rb Tb : Nat) (va vb d c nn e : Value) (La Lb : List RuleZ) (l lc ln le : List Int) (a : Act) (W : World) : Prop :=
  ∃ (sv : Value) (ls : List Int), zqc ls 1 4 = true /\ TbS X0 Tb va vb d c nn e sv La Lb W /\ ByT W d l /\ ByT W c lc /\ ByT W nn ln /\ ByT W e le /\ ByT W sv ls /\ MtF n Rb Tb a W
def VMx (w1 X2 : World) (n0 top : Nat) (iv v : Value) (wr : World) : Prop :=
  ∃ (i : Nat) (L : List RuleZ), i <= top /\ iv = .int .i64 (i : Nat) /\ RuS w1.heap.size wr v L 26 6 /\ L.length = n0 + i /\ Below w1.heap.size w1 wr /\ Keeps (fun t => t ≠ 59) X2 wr
set_option maxHeartbeats 8000000 in
theorem tables_any (n : Int) (w : World) (h1 : -9223372036854775808 <= n) (h2 : n <= 9223372036854775807) : Calls Tryz.prog 6 #[.int .i64 n] w fun e w' => ∃ V T, e = .returned (TabV.v V) /\ TabIn w' V T /\ TabG T /\ Below w.heap.size w w' := by
  have HCE := hidep (fun (k : Int) (W : World) (h0 : 0 <= k) (h9 : k <= 1000) => cell_any n k W h1 h2 h0 h9)
  go_enter Tryz.func6, Tryz.ntmps6
  go_upto_region 1 with (fail)
  obtain ⟨Rb, hRb⟩ : ∃ B, B = w.heap.size := ⟨_, rfl⟩
  refine zq9 (fun X => Below w.heap.size w X /\ X.heap[Rb]? = some (.cells #[vnil, vnil, vnil, vnil, vnil, vnil, vnil] 29)) ⟨(Below.refl _ _).alloc (Nat.le_refl _) _, by rw [hRb]; exact heap_alloc_new _ _⟩ ?_
  rintro X0 ⟨hb0, hr0⟩
  rw [<- hRb]
  have HX0 := hidep (And.intro hb0 (And.intro hr0 hRb))
  clear hb0 hr0 hRb
  go_upto_region 2 with (fail)
  obtain ⟨Tb, hTb⟩ : ∃ B, B = X0.heap.size := ⟨_, rfl⟩
  refine zq9 (fun X => TbS X0 Tb vnil vnil vnil vnil vnil vnil vnil [] [] X) ⟨(Below.refl _ _).alloc (Nat.le_refl _) _, by rw [hTb]; exact Nat.le_refl _, by rw [hTb]; exact heap_alloc_new _ _, RulesT.nil _ _, RulesT.nil _ _, fun g h => by simp [Value.ownBlock] at h⟩ ?_
  intro X1 hT1
  rw [<- hTb]
  have HT1 := hidep hT1
  clear hTb hT1
  go_upto_region 3 with (fail)
  refine wp_loop (LoopI 182 (fun tm ds wr => (slot tm 0) = .int .i64 n /\ (slot tm 2) = .pointer (some ⟨Rb, 0, none⟩) /\ (slot tm 3) = .pointer (some ⟨Tb, 0, none⟩) /\ ds = [] /\ VMt X0 Tb (slot tm 4) wr)) (fun a' wr => 2 - natI (a'.tmps.getD 4 undef)) ?olStart ?olRound
  case' olStart => refine LoopI.mk rfl ?_
  case' olRound => (rintro ⟨t, ds⟩ wr ⟨hts, hrel⟩; dsimp only at hts hrel; rw [zq53 t ds hts])
  case olStart => exact ⟨rfl, rfl, rfl, rfl, 0, _, _, _, _, Nat.zero_le _, rfl, HT1.out, fun h => absurd h (by decide), fun h => absurd h (by decide)⟩
  obtain ⟨e0, e2, e3, hds, k, va, vb, La, Lb, hk, e4, hT, hMa, hMb⟩ := hrel
  subst hds
  rw [e0, e2, e3, e4]
  clear e0 e2 e3 e4 hts HT1
  have HT := hidep (And.intro hT (And.intro hMa hMb))
  clear hT hMa hMb
  by_cases hk2 : k < 2
  · have hki : (k : Int) < 2 := by omega
    have hk0 : (0 : Int) <= (k : Int) := by omega
    obtain ⟨w1, hw1⟩ : ∃ w1 : World, w1 = wr := ⟨_, rfl⟩
    rw [<- hw1] at HT ⊢
    clear hw1
    go_upto_region 7 with (fail)
    refine wp_loop (LoopI 182 (fun tm ds wr => (slot tm 0) = .int .i64 n /\ (slot tm 2) = .pointer (some ⟨Rb, 0, none⟩) /\ (slot tm 3) = .pointer (some ⟨Tb, 0, none⟩) /\ (slot tm 4) = .int .i64 (k : Nat) /\ ds = [] /\ VMl w1 0 0 false (slot tm 6) (slot tm 5) 26 wr)) (fun a' wr => 26 - natI (a'.tmps.getD 6 undef)) ?l6Start ?l6Round
    case' l6Start => refine LoopI.mk rfl ?_
    case' l6Round => (rintro ⟨t, ds⟩ wr ⟨hts, hrel⟩; dsimp only at hts hrel; rw [zq53 t ds hts])
    case l6Start => exact ⟨rfl, rfl, rfl, rfl, rfl, 0, [], Nat.zero_le _, rfl, ⟨RulesT.nil _ _, fun r h => (by cases h), fun j h => (by simp at h), fun j h => (by simp at h)⟩, rfl, Below.refl _ _⟩
    obtain ⟨e0, e2, e3, e4, hds, i, L, hi, e6, hR, hLn, hbw⟩ := hrel
    obtain ⟨v, hv⟩ : ∃ v, v = slot t 5 := ⟨_, rfl⟩
    rw [<- hv] at hR
    subst hds
    rw [e0, e2, e3, e4, e6, <- hv]
    clear e0 e2 e3 e4 e6 hts hv
    rw [if_neg (by simp), if_neg (by simp), Nat.zero_add] at *
    by_cases hil : i < 26
    · have hii : (i : Int) < 26 := by omega
      have hwc : IntKind.i64.wrap (97 + (i : Int)) = 97 + (i : Int) := IntWalk.i64_in _ (by omega)
      have hu97 : IntKind.u8.wrap (97 + (i : Int)) = 97 + (i : Int) := by show (97 + (i : Int)) % 256 = _; omega
      have hwi : IntKind.i64.wrap ((i : Int) + 1) = (i : Int) + 1 := IntWalk.i64_in _ (by omega)
      have hw3 : IntKind.i64.wrap (3 * (k : Int)) = 3 * (k : Int) := IntWalk.i64_in _ (by omega)
      have hws : IntKind.i64.wrap ((i : Int) + 3 * (k : Int)) = (i : Int) + 3 * (k : Int) := IntWalk.i64_in _ (by omega)
      have htm : ((i : Int) + 3 * (k : Int)).tmod 26 = ((i : Int) + 3 * (k : Int)) % 26 := Int.tmod_eq_emod_of_nonneg (by omega)
      have htb : 0 <= ((i : Int) + 3 * (k : Int)).tmod 26 /\ ((i : Int) + 3 * (k : Int)).tmod 26 <= 1000 := by rw [htm]; omega
      clear htm
      have HWK := hidep (And.intro hR hbw)
      have HLN := hidep hLn
      obtain ⟨us, hus, hown, hcs⟩ := hR.at'
      have HUS := hidep (And.intro hus hcs)
      obtain ⟨va5, vc5, rfl, _, _⟩ := (Rd.of_own hown).form
      have hw10 : w1.heap.size <= wr.heap.size := hbw.size
      have hlen : L.length <= 1000 := by omega
      have HOWN := hidep hown
      clear hR hbw hus hcs hown hLn
      go_upto_region 9 with (fail)
      refine wp_region_noPanic (wp_region_held_drew (S := (fun _ => True)) (by kernel_rfl) ?hSz0 (fun hHeld => ?hRz0))
      case hSz0 => ((try dsimp only); (try exact trivial))
      refine tkC 0 rfl ?_
      refine tkC 1 rfl ?_
      refine tkC 2 rfl ?_
      refine tkC 3 rfl ?_
      refine tkC 6 rfl ?_
      refine tkC 7 rfl ?_
      refine tkC 8 rfl ?_
      refine tkC 9 rfl ?_
      refine tkC 10 rfl ?_
      refine tkC 11 rfl ?_
      refine wpAnyH_ready (rs := [4, 12]) (by kernel_rfl) (by simp) (AllReadyH.cons rfl (fun K hK => ?hcz1) (AllReadyH.cons rfl (fun K hK => ?hcz2) AllReadyH.nil))
      case' hcz1 =>
        go_simp
        ((first | refine zq7 (fun X27 hBX hL27 => ?_) | refine zq3 (fun X27 hBX hL27 => ?_)); have hk9 : Below wr.heap.size wr X27 := (by first | exact hk9.trans (hBX.mono hk9.size) | exact ((Below.refl _ _).drew).trans hBX | exact hBX); (first | (have hL36 := zq0 hBX hL36) | skip); (try dsimp only))
        refine hK.out _ _ (by (try dsimp only); (try exact trivial)) ?_
        clear hHeld hK; intro hHeld
        refine wpAnyH_ready (rs := [5, 12]) (by kernel_rfl) (by simp) (AllReadyH.cons rfl (fun K hK => ?hcz3) (AllReadyH.cons rfl (fun K hK => ?hcz4) AllReadyH.nil))
        case' hcz3 =>
          (have hcv := conv1 (97 + (i : Int)) (lttB i) (zq4a i) _ _ (zq5 hL27); go_simp)
          refine hK.out _ _ (by (try dsimp only); (try exact trivial)) ?_
          clear hHeld hK; intro hHeld
          refine wpAnyH_ready (rs := [12]) (by kernel_rfl) (by simp) (AllReadyH.cons rfl (fun K hK => ?hcz5) AllReadyH.nil)
          go_simp
          (go_at_call 22; refine (HCE.out _ _ (by omega) (by omega)).mono ?_; rintro e' w9 ⟨c, rfl, hc1, hc2, hb9⟩; have hk9 : Below wr.heap.size wr w9 := (by first | exact hk9.trans (hb9.mono hk9.size) | exact ((Below.refl _ _).drew).trans hb9 | exact hb9); (first | (have hL27 := zq0 hb9 hL27) | skip); (try dsimp only))
          refine hK.out _ _ (by (try dsimp only); (try exact trivial)) ?_
          clear hHeld hK; intro hHeld
          refine wpAnyH_ready (rs := [13]) (by kernel_rfl) (by simp) (AllReadyH.cons rfl (fun K hK => ?hcz6) AllReadyH.nil)
          go_simp
          ((first | refine zq7 (fun X36 hBX hL36 => ?_) | refine zq3 (fun X36 hBX hL36 => ?_)); have hk9 : Below wr.heap.size wr X36 := hk9.trans (hBX.mono hk9.size); (first | (have hL27 := zq0 hBX hL27) | skip); (try dsimp only))
          refine hK.out _ _ (by (try dsimp only); (try exact trivial)) ?_
          clear hHeld hK; intro hHeld
          refine tkC 14 rfl ?_
          refine wpAnyH_ready (rs := [15]) (by kernel_rfl) (by simp) (AllReadyH.cons rfl (fun K hK => ?hcz7) AllReadyH.nil)
          go_simp
          ((first | refine zq7 (fun X38 hBX hL38 => ?_) | refine zq3 (fun X38 hBX hL38 => ?_)); have hk9 : Below wr.heap.size wr X38 := hk9.trans (hBX.mono hk9.size); have hL36 := zq0 hBX hL36; (try dsimp only))
          refine hK.out _ _ (by (try dsimp only); (try exact trivial)) ?_
          clear hHeld hK; intro hHeld
          refine wpAnyH_ready (rs := [16]) (by kernel_rfl) (by simp) (AllReadyH.cons rfl (fun K hK => ?hcz8) AllReadyH.nil)
          (refine zq11 _ rfl (.tmp 23) (.tmp 38) rfl zq36 w1.heap.size (.slice va5 L.length vc5) L.length (zq10 L us) rfl (zq2 HOWN.out hk9) _ _ _ _ rfl (zq28 hL38) (by intro u hu; simp at hu; rcases hu with rfl | rfl | rfl <;> rfl) (by unfold maxLen; omega) (by omega) (Nat.le_trans hw10 hk9.size) ?_; intro v7 w7 ho7 hg7 hown7 hnl7; clear hnl7; obtain ⟨a7, c7, hv7, _, _⟩ := (Rd.of_own ho7).form; subst hv7; (try dsimp only))
          refine hK.out _ _ (by (try dsimp only); (try exact trivial)) ?_
          clear hHeld hK; intro hHeld
          refine tkC 17 rfl ?_
          refine wpAnyH_done (by kernel_rfl) ?_ _
          clear hHeld
          refine NoPanic.normal ?_
        case' hcz4 =>
          go_simp
          (go_at_call 22; refine (HCE.out _ _ (by omega) (by omega)).mono ?_; rintro e' w9 ⟨c, rfl, hc1, hc2, hb9⟩; have hk9 : Below wr.heap.size wr w9 := (by first | exact hk9.trans (hb9.mono hk9.size) | exact ((Below.refl _ _).drew).trans hb9 | exact hb9); (first | (have hL27 := zq0 hb9 hL27) | skip); (try dsimp only))
          refine hK.out _ _ (by (try dsimp only); (try exact trivial)) ?_
          clear hHeld hK; intro hHeld
          refine wpAnyH_ready (rs := [5, 13]) (by kernel_rfl) (by simp) (AllReadyH.cons rfl (fun K hK => ?hcz9) (AllReadyH.cons rfl (fun K hK => ?hcz10) AllReadyH.nil))
          case' hcz9 =>
            (have hcv := conv1 (97 + (i : Int)) (lttB i) (zq4a i) _ _ (zq5 hL27); go_simp)
            refine hK.out _ _ (by (try dsimp only); (try exact trivial)) ?_
            clear hHeld hK; intro hHeld
            refine wpAnyH_ready (rs := [13]) (by kernel_rfl) (by simp) (AllReadyH.cons rfl (fun K hK => ?hcz11) AllReadyH.nil)
            go_simp
            ((first | refine zq7 (fun X36 hBX hL36 => ?_) | refine zq3 (fun X36 hBX hL36 => ?_)); have hk9 : Below wr.heap.size wr X36 := hk9.trans (hBX.mono hk9.size); (first | (have hL27 := zq0 hBX hL27) | skip); (try dsimp only))
            refine hK.out _ _ (by (try dsimp only); (try exact trivial)) ?_
            clear hHeld hK; intro hHeld
            refine tkC 14 rfl ?_
            refine wpAnyH_ready (rs := [15]) (by kernel_rfl) (by simp) (AllReadyH.cons rfl (fun K hK => ?hcz12) AllReadyH.nil)
            go_simp
            ((first | refine zq7 (fun X38 hBX hL38 => ?_) | refine zq3 (fun X38 hBX hL38 => ?_)); have hk9 : Below wr.heap.size wr X38 := hk9.trans (hBX.mono hk9.size); have hL36 := zq0 hBX hL36; (try dsimp only))
            refine hK.out _ _ (by (try dsimp only); (try exact trivial)) ?_
            clear hHeld hK; intro hHeld
            refine wpAnyH_ready (rs := [16]) (by kernel_rfl) (by simp) (AllReadyH.cons rfl (fun K hK => ?hcz13) AllReadyH.nil)
            (refine zq11 _ rfl (.tmp 23) (.tmp 38) rfl zq36 w1.heap.size (.slice va5 L.length vc5) L.length (zq10 L us) rfl (zq2 HOWN.out hk9) _ _ _ _ rfl (zq28 hL38) (by intro u hu; simp at hu; rcases hu with rfl | rfl | rfl <;> rfl) (by unfold maxLen; omega) (by omega) (Nat.le_trans hw10 hk9.size) ?_; intro v7 w7 ho7 hg7 hown7 hnl7; clear hnl7; obtain ⟨a7, c7, hv7, _, _⟩ := (Rd.of_own ho7).form; subst hv7; (try dsimp only))
            refine hK.out _ _ (by (try dsimp only); (try exact trivial)) ?_
            clear hHeld hK; intro hHeld
            refine tkC 17 rfl ?_
            refine wpAnyH_done (by kernel_rfl) ?_ _
            clear hHeld
            refine NoPanic.normal ?_
          case' hcz10 =>
            go_simp
            ((first | refine zq7 (fun X36 hBX hL36 => ?_) | refine zq3 (fun X36 hBX hL36 => ?_)); have hk9 : Below wr.heap.size wr X36 := hk9.trans (hBX.mono hk9.size); (first | (have hL27 := zq0 hBX hL27) | skip); (try dsimp only))
            refine hK.out _ _ (by (try dsimp only); (try exact trivial)) ?_
            clear hHeld hK; intro hHeld
            refine wpAnyH_ready (rs := [5]) (by kernel_rfl) (by simp) (AllReadyH.cons rfl (fun K hK => ?hcz14) AllReadyH.nil)
            (have hcv := conv1 (97 + (i : Int)) (lttB i) (zq4a i) _ _ (zq5 hL27); go_simp)
            refine hK.out _ _ (by (try dsimp only); (try exact trivial)) ?_
            clear hHeld hK; intro hHeld
            refine tkC 14 rfl ?_
            refine wpAnyH_ready (rs := [15]) (by kernel_rfl) (by simp) (AllReadyH.cons rfl (fun K hK => ?hcz15) AllReadyH.nil)
            go_simp
            ((first | refine zq7 (fun X38 hBX hL38 => ?_) | refine zq3 (fun X38 hBX hL38 => ?_)); have hk9 : Below wr.heap.size wr X38 := hk9.trans (hBX.mono hk9.size); have hL36 := zq0 hBX hL36; (try dsimp only))
            refine hK.out _ _ (by (try dsimp only); (try exact trivial)) ?_
            clear hHeld hK; intro hHeld
            refine wpAnyH_ready (rs := [16]) (by kernel_rfl) (by simp) (AllReadyH.cons rfl (fun K hK => ?hcz16) AllReadyH.nil)
            (refine zq11 _ rfl (.tmp 23) (.tmp 38) rfl zq36 w1.heap.size (.slice va5 L.length vc5) L.length (zq10 L us) rfl (zq2 HOWN.out hk9) _ _ _ _ rfl (zq28 hL38) (by intro u hu; simp at hu; rcases hu with rfl | rfl | rfl <;> rfl) (by unfold maxLen; omega) (by omega) (Nat.le_trans hw10 hk9.size) ?_; intro v7 w7 ho7 hg7 hown7 hnl7; clear hnl7; obtain ⟨a7, c7, hv7, _, _⟩ := (Rd.of_own ho7).form; subst hv7; (try dsimp only))
            refine hK.out _ _ (by (try dsimp only); (try exact trivial)) ?_
            clear hHeld hK; intro hHeld
            refine tkC 17 rfl ?_
            refine wpAnyH_done (by kernel_rfl) ?_ _
            clear hHeld
            refine NoPanic.normal ?_
      case' hcz2 =>
        go_simp
        (go_at_call 22; refine (HCE.out _ _ (by omega) (by omega)).mono ?_; rintro e' w9 ⟨c, rfl, hc1, hc2, hb9⟩; have hk9 : Below wr.heap.size wr w9 := (by first | exact hk9.trans (hb9.mono hk9.size) | exact ((Below.refl _ _).drew).trans hb9 | exact hb9); (first | (have hL27 := zq0 hb9 hL27) | skip); (try dsimp only))
        refine hK.out _ _ (by (try dsimp only); (try exact trivial)) ?_
        clear hHeld hK; intro hHeld
        refine wpAnyH_ready (rs := [4, 13]) (by kernel_rfl) (by simp) (AllReadyH.cons rfl (fun K hK => ?hcz17) (AllReadyH.cons rfl (fun K hK => ?hcz18) AllReadyH.nil))
        case' hcz17 =>
          go_simp
          ((first | refine zq7 (fun X27 hBX hL27 => ?_) | refine zq3 (fun X27 hBX hL27 => ?_)); have hk9 : Below wr.heap.size wr X27 := (by first | exact hk9.trans (hBX.mono hk9.size) | exact ((Below.refl _ _).drew).trans hBX | exact hBX); (first | (have hL36 := zq0 hBX hL36) | skip); (try dsimp only))
          refine hK.out _ _ (by (try dsimp only); (try exact trivial)) ?_
          clear hHeld hK; intro hHeld
          refine wpAnyH_ready (rs := [5, 13]) (by kernel_rfl) (by simp) (AllReadyH.cons rfl (fun K hK => ?hcz19) (AllReadyH.cons rfl (fun K hK => ?hcz20) AllReadyH.nil))
          case' hcz19 =>
            (have hcv := conv1 (97 + (i : Int)) (lttB i) (zq4a i) _ _ (zq5 hL27); go_simp)
            refine hK.out _ _ (by (try dsimp only); (try exact trivial)) ?_
            clear hHeld hK; intro hHeld
            refine wpAnyH_ready (rs := [13]) (by kernel_rfl) (by simp) (AllReadyH.cons rfl (fun K hK => ?hcz21) AllReadyH.nil)
            go_simp
            ((first | refine zq7 (fun X36 hBX hL36 => ?_) | refine zq3 (fun X36 hBX hL36 => ?_)); have hk9 : Below wr.heap.size wr X36 := hk9.trans (hBX.mono hk9.size); (first | (have hL27 := zq0 hBX hL27) | skip); (try dsimp only))
            refine hK.out _ _ (by (try dsimp only); (try exact trivial)) ?_
            clear hHeld hK; intro hHeld
            refine tkC 14 rfl ?_
            refine wpAnyH_ready (rs := [15]) (by kernel_rfl) (by simp) (AllReadyH.cons rfl (fun K hK => ?hcz22) AllReadyH.nil)
            go_simp
            ((first | refine zq7 (fun X38 hBX hL38 => ?_) | refine zq3 (fun X38 hBX hL38 => ?_)); have hk9 : Below wr.heap.size wr X38 := hk9.trans (hBX.mono hk9.size); have hL36 := zq0 hBX hL36; (try dsimp only))
            refine hK.out _ _ (by (try dsimp only); (try exact trivial)) ?_
            clear hHeld hK; intro hHeld
            refine wpAnyH_ready (rs := [16]) (by kernel_rfl) (by simp) (AllReadyH.cons rfl (fun K hK => ?hcz23) AllReadyH.nil)
            (refine zq11 _ rfl (.tmp 23) (.tmp 38) rfl zq36 w1.heap.size (.slice va5 L.length vc5) L.length (zq10 L us) rfl (zq2 HOWN.out hk9) _ _ _ _ rfl (zq28 hL38) (by intro u hu; simp at hu; rcases hu with rfl | rfl | rfl <;> rfl) (by unfold maxLen; omega) (by omega) (Nat.le_trans hw10 hk9.size) ?_; intro v7 w7 ho7 hg7 hown7 hnl7; clear hnl7; obtain ⟨a7, c7, hv7, _, _⟩ := (Rd.of_own ho7).form; subst hv7; (try dsimp only))
            refine hK.out _ _ (by (try dsimp only); (try exact trivial)) ?_
            clear hHeld hK; intro hHeld
            refine tkC 17 rfl ?_
            refine wpAnyH_done (by kernel_rfl) ?_ _
            clear hHeld
            refine NoPanic.normal ?_
          case' hcz20 =>
            go_simp
            ((first | refine zq7 (fun X36 hBX hL36 => ?_) | refine zq3 (fun X36 hBX hL36 => ?_)); have hk9 : Below wr.heap.size wr X36 := hk9.trans (hBX.mono hk9.size); (first | (have hL27 := zq0 hBX hL27) | skip); (try dsimp only))
            refine hK.out _ _ (by (try dsimp only); (try exact trivial)) ?_
            clear hHeld hK; intro hHeld
            refine wpAnyH_ready (rs := [5]) (by kernel_rfl) (by simp) (AllReadyH.cons rfl (fun K hK => ?hcz24) AllReadyH.nil)
            (have hcv := conv1 (97 + (i : Int)) (lttB i) (zq4a i) _ _ (zq5 hL27); go_simp)
            refine hK.out _ _ (by (try dsimp only); (try exact trivial)) ?_
            clear hHeld hK; intro hHeld
            refine tkC 14 rfl ?_
            refine wpAnyH_ready (rs := [15]) (by kernel_rfl) (by simp) (AllReadyH.cons rfl (fun K hK => ?hcz25) AllReadyH.nil)
            go_simp
            ((first | refine zq7 (fun X38 hBX hL38 => ?_) | refine zq3 (fun X38 hBX hL38 => ?_)); have hk9 : Below wr.heap.size wr X38 := hk9.trans (hBX.mono hk9.size); have hL36 := zq0 hBX hL36; (try dsimp only))
            refine hK.out _ _ (by (try dsimp only); (try exact trivial)) ?_
            clear hHeld hK; intro hHeld
            refine wpAnyH_ready (rs := [16]) (by kernel_rfl) (by simp) (AllReadyH.cons rfl (fun K hK => ?hcz26) AllReadyH.nil)
            (refine zq11 _ rfl (.tmp 23) (.tmp 38) rfl zq36 w1.heap.size (.slice va5 L.length vc5) L.length (zq10 L us) rfl (zq2 HOWN.out hk9) _ _ _ _ rfl (zq28 hL38) (by intro u hu; simp at hu; rcases hu with rfl | rfl | rfl <;> rfl) (by unfold maxLen; omega) (by omega) (Nat.le_trans hw10 hk9.size) ?_; intro v7 w7 ho7 hg7 hown7 hnl7; clear hnl7; obtain ⟨a7, c7, hv7, _, _⟩ := (Rd.of_own ho7).form; subst hv7; (try dsimp only))
            refine hK.out _ _ (by (try dsimp only); (try exact trivial)) ?_
            clear hHeld hK; intro hHeld
            refine tkC 17 rfl ?_
            refine wpAnyH_done (by kernel_rfl) ?_ _
            clear hHeld
            refine NoPanic.normal ?_
        case' hcz18 =>
          go_simp
          ((first | refine zq7 (fun X36 hBX hL36 => ?_) | refine zq3 (fun X36 hBX hL36 => ?_)); have hk9 : Below wr.heap.size wr X36 := hk9.trans (hBX.mono hk9.size); (first | (have hL27 := zq0 hBX hL27) | skip); (try dsimp only))
          refine hK.out _ _ (by (try dsimp only); (try exact trivial)) ?_
          clear hHeld hK; intro hHeld
          refine wpAnyH_ready (rs := [4]) (by kernel_rfl) (by simp) (AllReadyH.cons rfl (fun K hK => ?hcz27) AllReadyH.nil)
          go_simp
          ((first | refine zq7 (fun X27 hBX hL27 => ?_) | refine zq3 (fun X27 hBX hL27 => ?_)); have hk9 : Below wr.heap.size wr X27 := (by first | exact hk9.trans (hBX.mono hk9.size) | exact ((Below.refl _ _).drew).trans hBX | exact hBX); (first | (have hL36 := zq0 hBX hL36) | skip); (try dsimp only))
          refine hK.out _ _ (by (try dsimp only); (try exact trivial)) ?_
          clear hHeld hK; intro hHeld
          refine wpAnyH_ready (rs := [5]) (by kernel_rfl) (by simp) (AllReadyH.cons rfl (fun K hK => ?hcz28) AllReadyH.nil)
          (have hcv := conv1 (97 + (i : Int)) (lttB i) (zq4a i) _ _ (zq5 hL27); go_simp)
          refine hK.out _ _ (by (try dsimp only); (try exact trivial)) ?_
          clear hHeld hK; intro hHeld
          refine tkC 14 rfl ?_
          refine wpAnyH_ready (rs := [15]) (by kernel_rfl) (by simp) (AllReadyH.cons rfl (fun K hK => ?hcz29) AllReadyH.nil)
          go_simp
          ((first | refine zq7 (fun X38 hBX hL38 => ?_) | refine zq3 (fun X38 hBX hL38 => ?_)); have hk9 : Below wr.heap.size wr X38 := hk9.trans (hBX.mono hk9.size); have hL36 := zq0 hBX hL36; (try dsimp only))
          refine hK.out _ _ (by (try dsimp only); (try exact trivial)) ?_
          clear hHeld hK; intro hHeld
          refine wpAnyH_ready (rs := [16]) (by kernel_rfl) (by simp) (AllReadyH.cons rfl (fun K hK => ?hcz30) AllReadyH.nil)
          (refine zq11 _ rfl (.tmp 23) (.tmp 38) rfl zq36 w1.heap.size (.slice va5 L.length vc5) L.length (zq10 L us) rfl (zq2 HOWN.out hk9) _ _ _ _ rfl (zq28 hL38) (by intro u hu; simp at hu; rcases hu with rfl | rfl | rfl <;> rfl) (by unfold maxLen; omega) (by omega) (Nat.le_trans hw10 hk9.size) ?_; intro v7 w7 ho7 hg7 hown7 hnl7; clear hnl7; obtain ⟨a7, c7, hv7, _, _⟩ := (Rd.of_own ho7).form; subst hv7; (try dsimp only))
          refine hK.out _ _ (by (try dsimp only); (try exact trivial)) ?_
          clear hHeld hK; intro hHeld
          refine tkC 17 rfl ?_
          refine wpAnyH_done (by kernel_rfl) ?_ _
          clear hHeld
          refine NoPanic.normal ?_
      all_goals
        have hnew := zqcf (na' := i + 1) (nb' := 0) (r := ⟨lttB i, 0, [c]⟩) (HWK.out.1.below hk9) HUS.out.1 (fun j h h' => (HUS.out.2 j h h').below hk9) (zq2 HOWN.out hk9) (zq6b [c] hL36 (by simp) (by simp; omega)) (by exact hg7) (by exact ho7) (right_letter hil hc1 hc2) (fun j hj => by
          rcases (by omega : j < i \/ j = i) with h | rfl
          · exact .inl h
          · exact .inr ⟨rfl, rfl⟩) (fun j hj => .inl hj)
        have hb7 : Below w1.heap.size w1 w7 := (HWK.out.2.trans (hk9.mono HWK.out.2.size)).grown hg7 (Nat.le_trans hw10 hk9.size) (fun x hx => (HOWN.out.lt x hx).1)
        have HNW := hidep (And.intro hnew hb7)
        clear hnew hb7 ho7 hg7 hown7 hL36 hL38 hk9
        go_wp2
        refine ⟨LoopI.mk rfl ⟨rfl, rfl, rfl, rfl, rfl, i + 1, _, by omega, by show Value.int _ _ = _; go_num, by rw [if_neg (by simp), if_neg (by simp)]; exact HNW.out.1, by rw [List.length_append, List.length_singleton, HLN.out]; omega, HNW.out.2⟩, ?_⟩
        show 26 - _ < 26 - _
        simp [natI]; omega
    · have hie : i = 26 := by omega
      have hii : ¬ (i : Int) < 26 := by omega
      rw [hie] at hR hLn
      have HR26 := hidep (And.intro hR (And.intro hLn hbw))
      clear hR hLn hbw hie hi hil
      obtain ⟨v26, hv26⟩ : ∃ x, x = v := ⟨_, rfl⟩
      rw [<- hv26] at HR26 ⊢
      clear hv26
      go_upto_region 12 with (fail)
      refine wp_loop (LoopI 182 (fun tm ds wr => (slot tm 0) = .int .i64 n /\ (slot tm 2) = .pointer (some ⟨Rb, 0, none⟩) /\ (slot tm 3) = .pointer (some ⟨Tb, 0, none⟩) /\ (slot tm 4) = .int .i64 (k : Nat) /\ (slot tm 7) = .string b6 /\ ds = [] /\ VMl w1 26 26 true (slot tm 8) (slot tm 5) 6 wr)) (fun a' wr => 6 - natI (a'.tmps.getD 8 undef)) ?l8Start ?l8Round
      case' l8Start => refine LoopI.mk rfl ?_
      case' l8Round => (rintro ⟨t, ds⟩ wr ⟨hts, hrel⟩; dsimp only at hts hrel; rw [zq53 t ds hts])
      case l8Start => exact ⟨rfl, rfl, rfl, rfl, rfl, rfl, 0, _, Nat.zero_le _, rfl, by rw [if_pos rfl, if_pos rfl]; exact HR26.out.1, HR26.out.2.1, HR26.out.2.2⟩
      clear HR26
      obtain ⟨e0, e2, e3, e4, e7, hds, i, L, hi, e8, hR, hLn, hbw⟩ := hrel
      obtain ⟨v, hv⟩ : ∃ v, v = slot t 5 := ⟨_, rfl⟩
      rw [<- hv] at hR
      subst hds
      rw [e0, e2, e3, e4, e7, e8, <- hv]
      clear e0 e2 e3 e4 e7 e8 hts hv
      rw [if_pos rfl, if_pos rfl] at hR
      have hb6 : (b6.size : Int) = 6 := by decide
      by_cases hil : i < 6
      · have hii : (i : Int) < 6 := by omega
        have hi0 : (0 : Int) <= (i : Int) := by omega
        have hwi : IntKind.i64.wrap ((i : Int) + 1) = (i : Int) + 1 := IntWalk.i64_in _ (by omega)
        have hw26 : IntKind.i64.wrap (26 + (i : Int)) = 26 + (i : Int) := IntWalk.i64_in _ (by omega)
        have hi1 : (i : Int) <= (i : Int) + 1 := by omega
        have hi01 : (0 : Int) <= (i : Int) + 1 := by omega
        have hi6 : (i : Int) + 1 <= 6 := by omega
        have HWK := hidep (And.intro hR hbw)
        have HLN := hidep hLn
        obtain ⟨us, hus, hown, hcs⟩ := hR.at'
        have HUS := hidep (And.intro hus hcs)
        obtain ⟨va5, vc5, rfl, _, _⟩ := (Rd.of_own hown).form
        have hw10 : w1.heap.size <= wr.heap.size := hbw.size
        have hlen : L.length <= 1000 := by omega
        have HOWN := hidep hown
        clear hR hbw hus hcs hown hLn
        go_upto_region 14 with (fail)
        refine wp_region_noPanic (wp_region_held_drew (S := (fun _ => True)) (by kernel_rfl) ?hSz31 (fun hHeld => ?hRz31))
        case hSz31 => ((try dsimp only); (try exact trivial))
        refine tkC 0 rfl ?_
        refine tkC 1 rfl ?_
        refine tkC 2 rfl ?_
        refine tkC 3 rfl ?_
        refine tkC 4 rfl ?_
        refine tkC 5 rfl ?_
        refine tkC 6 rfl ?_
        refine tkC 7 rfl ?_
        refine tkC 8 rfl ?_
        refine wpAnyH_ready (rs := [9]) (by kernel_rfl) (by simp) (AllReadyH.cons rfl (fun K hK => ?hcz32) AllReadyH.nil)
        go_simp
        (go_at_call 22; refine (HCE.out _ _ (by omega) (by omega)).mono ?_; rintro e' w9 ⟨c, rfl, hc1, hc2, hb9⟩; have hk9 : Below wr.heap.size wr w9 := (by first | exact ((Below.refl _ _).drew).trans hb9 | exact hb9); (try dsimp only))
        refine hK.out _ _ (by (try dsimp only); (try exact trivial)) ?_
        clear hHeld hK; intro hHeld
        refine wpAnyH_ready (rs := [10]) (by kernel_rfl) (by simp) (AllReadyH.cons rfl (fun K hK => ?hcz33) AllReadyH.nil)
        go_simp
        ((first | refine zq7 (fun X36 hBX hL36 => ?_) | refine zq3 (fun X36 hBX hL36 => ?_)); have hk9 : Below wr.heap.size wr X36 := hk9.trans (hBX.mono hk9.size); (try dsimp only))
        refine hK.out _ _ (by (try dsimp only); (try exact trivial)) ?_
        clear hHeld hK; intro hHeld
        refine tkC 11 rfl ?_
        refine wpAnyH_ready (rs := [12]) (by kernel_rfl) (by simp) (AllReadyH.cons rfl (fun K hK => ?hcz34) AllReadyH.nil)
        go_simp
        ((first | refine zq7 (fun X38 hBX hL38 => ?_) | refine zq3 (fun X38 hBX hL38 => ?_)); have hk9 : Below wr.heap.size wr X38 := hk9.trans (hBX.mono hk9.size); have hL36 := zq0 hBX hL36; (try dsimp only))
        refine hK.out _ _ (by (try dsimp only); (try exact trivial)) ?_
        clear hHeld hK; intro hHeld
        refine wpAnyH_ready (rs := [13]) (by kernel_rfl) (by simp) (AllReadyH.cons rfl (fun K hK => ?hcz35) AllReadyH.nil)
        (refine zq11 _ rfl (.tmp 46) (.tmp 58) rfl zq36 w1.heap.size (.slice va5 L.length vc5) L.length (zq10 L us) rfl (zq2 HOWN.out hk9) _ _ _ _ rfl (zq28 hL38) (by intro u hu; simp at hu; rcases hu with rfl | rfl | rfl <;> rfl) (by unfold maxLen; omega) (by omega) (Nat.le_trans hw10 hk9.size) ?_; intro v7 w7 ho7 hg7 hown7 hnl7; clear hnl7; obtain ⟨a7, c7, hv7, _, _⟩ := (Rd.of_own ho7).form; subst hv7; (try dsimp only))
        refine hK.out _ _ (by (try dsimp only); (try exact trivial)) ?_
        clear hHeld hK; intro hHeld
        refine tkC 14 rfl ?_
        refine wpAnyH_done (by kernel_rfl) ?_ _
        clear hHeld
        refine NoPanic.normal ?_
        all_goals
          have hnew := zqcf (na' := 26) (nb' := i + 1) (r := ⟨mrkB i, 0, [c]⟩) (HWK.out.1.below hk9) HUS.out.1 (fun j h h' => (HUS.out.2 j h h').below hk9) (zq2 HOWN.out hk9) (zq6b [c] hL36 (by simp) (by simp; omega)) (by exact hg7) (by exact ho7) (right_mrk ⟨i, hil⟩ [c] (zq79 hc1 hc2)) (fun j hj => .inl hj) (fun j hj => by
            rcases (by omega : j < i \/ j = i) with h | rfl
            · exact .inl h
            · exact .inr ⟨rfl, rfl⟩)
          have hb7 : Below w1.heap.size w1 w7 := (HWK.out.2.trans (hk9.mono HWK.out.2.size)).grown hg7 (Nat.le_trans hw10 hk9.size) (fun x hx => (HOWN.out.lt x hx).1)
          have HNW := hidep (And.intro hnew hb7)
          clear hnew hb7 ho7 hg7 hown7 hL36 hL38 hk9
          go_wp2
          refine ⟨LoopI.mk rfl ⟨rfl, rfl, rfl, rfl, rfl, rfl, i + 1, _, by omega, by show Value.int _ _ = _; go_num, by rw [if_pos rfl, if_pos rfl]; exact HNW.out.1, by rw [List.length_append, List.length_singleton, HLN.out]; omega, HNW.out.2⟩, ?_⟩
          show 6 - _ < 6 - _
          simp [natI]; omega
      · have hie : i = 6 := by omega
        have hii : ¬ (i : Int) < 6 := by omega
        rw [hie] at hR hLn
        have HR32 := hidep (And.intro hR (And.intro hLn hbw))
        clear hR hLn hbw hie hi hil
        obtain ⟨v32, hv32⟩ : ∃ x, x = v := ⟨_, rfl⟩
        rw [<- hv32] at HR32 ⊢
        have hii6 : ¬ (i : Int) < (b6.size : Int) := by rw [hb6]; exact hii
        clear hv32 hb6 hii
        go_upto_region 16 with (fail)
        obtain ⟨Bt, hBt⟩ : ∃ B, B = wr.heap.size := ⟨_, rfl⟩
        refine zq9 (fun X => Below wr.heap.size wr X /\ X.heap[Bt]? = some (.cells (zqd9.map Value.string).toArray 9)) ⟨(Below.refl _ _).alloc (Nat.le_refl _) _, by rw [hBt]; exact heap_alloc_new _ _⟩ ?_
        rintro X2 ⟨hb2, ht2⟩
        rw [<- hBt]
        have HT2 := hidep ht2
        have HR2 := hidep (And.intro (HR32.out.1.below hb2) (And.intro HR32.out.2.1 (HR32.out.2.2.trans (hb2.mono HR32.out.2.2.size))))
        have hq630 := zq3f (n := n) (d := 630) (by decide) h1 h2
        have hwd630 : IntKind.i64.wrap (n.tdiv 630) = n.tdiv 630 := IntWalk.i64_in _ (by omega)
        have hwa630 : IntKind.i64.wrap (n.tdiv 630 + (k : Int)) = n.tdiv 630 + (k : Int) := IntWalk.i64_in _ (by omega)
        have HAR := hidep (fun (x m : Int) (W : World) (h1 : -9223372036854775808 <= x) (h2 : x <= 9223372036854775807) => zq14 x m W h1 h2)
        obtain ⟨mn, hmn⟩ : ∃ m : Nat, (m : Int) = zqd (n.tdiv 630 + (k : Int)) 6 := ⟨(zqd (n.tdiv 630 + (k : Int)) 6).toNat, by have := zqe (n.tdiv 630 + (k : Int)) 6 (by decide); omega⟩
        have hmr : mn < 6 := by have := zqe (n.tdiv 630 + (k : Int)) 6 (by decide); omega
        have HAM := hidep (fun (W : World) => zq14 (n.tdiv 630 + (k : Int)) 6 W (by omega) (by omega))
        rw [<- hmn] at HAM
        have hw3m : IntKind.i64.wrap (3 + (mn : Int)) = ((3 + mn : Nat) : Int) := by rw [IntWalk.i64_in _ (by omega)]; omega
        clear hBt hb2 ht2 hmn HR32
        obtain ⟨tp, htp⟩ : ∃ x, x = 3 + mn := ⟨_, rfl⟩
        rw [<- htp] at hw3m
        have htp8 : tp <= 8 := by omega
        clear htp
        go_upto_region 18 with (go_at_call 9; refine (HAM.out _).mono ?_; rintro e w5 ⟨rfl, rfl⟩)
        clear hwa630 hwd630 hq630 hw3m HAM
        refine wp_loop (LoopI 182 (fun tm ds wr => (slot tm 0) = .int .i64 n /\ (slot tm 2) = .pointer (some ⟨Rb, 0, none⟩) /\ (slot tm 3) = .pointer (some ⟨Tb, 0, none⟩) /\ (slot tm 4) = .int .i64 (k : Nat) /\ (slot tm 9) = .slice (some ⟨Bt, 0, none⟩) 12 12 /\ (slot tm 10) = .int .i64 (tp : Nat) /\ ds = [] /\ VMx w1 X2 32 tp (slot tm 11) (slot tm 5) wr)) (fun a' wr => tp - natI (a'.tmps.getD 11 undef)) ?l11Start ?l11Round
        case' l11Start => refine LoopI.mk rfl ?_
        case' l11Round => (rintro ⟨t, ds⟩ wr ⟨hts, hrel⟩; dsimp only at hts hrel; rw [zq53 t ds hts])
        case l11Start => exact ⟨rfl, rfl, rfl, rfl, rfl, rfl, rfl, 0, _, Nat.zero_le _, rfl, HR2.out.1, HR2.out.2.1, HR2.out.2.2, Keeps.refl _ _⟩
        obtain ⟨e0, e2, e3, e4, e9, e10, hds, i, L, hi, e11, hR, hLn, hbw, hkt⟩ := hrel
        obtain ⟨v, hv⟩ : ∃ v, v = slot t 5 := ⟨_, rfl⟩
        rw [<- hv] at hR
        subst hds
        rw [e0, e2, e3, e4, e9, e10, e11, <- hv]
        clear e0 e2 e3 e4 e9 e10 e11 hts hv
        by_cases hil : i < tp
        · have hii : (i : Int) < (tp : Int) := by omega
          have hi8 : i < 8 := by omega
          have hwi : IntKind.i64.wrap ((i : Int) + 1) = (i : Int) + 1 := IntWalk.i64_in _ (by omega)
          have HWK := hidep (And.intro hR (And.intro hbw hkt))
          have HLN := hidep hLn
          obtain ⟨us, hus, hown, hcs⟩ := hR.at'
          have HUS := hidep (And.intro hus hcs)
          obtain ⟨va5, vc5, rfl, _, _⟩ := (Rd.of_own hown).form
          have hlen : L.length <= 1000 := by omega
          have HOWN := hidep hown
          clear hR hbw hkt hus hcs hown hLn
          have hq3780 := zq3f (n := n) (d := 3780) (by decide) h1 h2
          have hwd1 : IntKind.i64.wrap (n.tdiv 3780) = n.tdiv 3780 := IntWalk.i64_in _ (by omega)
          have hw5 : IntKind.i64.wrap (5 * (i : Int)) = 5 * (i : Int) := IntWalk.i64_in _ (by omega)
          have hwd2 : IntKind.i64.wrap (n.tdiv 3780 + 5 * (i : Int)) = n.tdiv 3780 + 5 * (i : Int) := IntWalk.i64_in _ (by omega)
          have hwd3 : IntKind.i64.wrap (n.tdiv 3780 + 5 * (i : Int) + (k : Int)) = n.tdiv 3780 + 5 * (i : Int) + (k : Int) := IntWalk.i64_in _ (by omega)
          obtain ⟨tj, htj⟩ : ∃ m : Nat, (m : Int) = zqd (n.tdiv 3780 + 5 * (i : Int) + (k : Int)) 12 := ⟨(zqd (n.tdiv 3780 + 5 * (i : Int) + (k : Int)) 12).toNat, by have := zqe (n.tdiv 3780 + 5 * (i : Int) + (k : Int)) 12 (by decide); omega⟩
          have htr : tj < 12 := by have := zqe (n.tdiv 3780 + 5 * (i : Int) + (k : Int)) 12 (by decide); omega
          have HAM := hidep (fun (W : World) => zq14 (n.tdiv 3780 + 5 * (i : Int) + (k : Int)) 12 W (by omega) (by omega))
          rw [<- htj] at HAM
          clear htj
          go_upto_region 21 with (go_at_call 9; refine (HAM.out _).mono ?_; rintro e w5 ⟨rfl, rfl⟩)
          clear hwd1 hw5 hwd2 hwd3 hq3780 HAM
          have hq7 := zq3f (n := n) (d := 7) (by decide) h1 h2
          have hwd7 : IntKind.i64.wrap (n.tdiv 7) = n.tdiv 7 := IntWalk.i64_in _ (by omega)
          obtain ⟨sq, hsq⟩ : ∃ x : Int, x = (i : Int) * (i : Int) := ⟨_, rfl⟩
          have hsq0 : 0 <= sq /\ sq <= 64 := by
            rw [hsq]
            have h8 := Int.mul_le_mul (show (i : Int) <= 8 by omega) (show (i : Int) <= 8 by omega) (by omega) (by omega)
            have h0 := Int.mul_nonneg (show (0 : Int) <= (i : Int) by omega) (show (0 : Int) <= (i : Int) by omega)
            omega
          have hwsq : IntKind.i64.wrap ((i : Int) * (i : Int)) = sq := by rw [<- hsq]; exact IntWalk.i64_in _ (by omega)
          have hwa7 : IntKind.i64.wrap (n.tdiv 7 + sq) = n.tdiv 7 + sq := IntWalk.i64_in _ (by omega)
          obtain ⟨ar, har⟩ : ∃ x, x = zqd (n.tdiv 7 + sq) 6 := ⟨_, rfl⟩
          have harr := zqe (n.tdiv 7 + sq) 6 (by decide)
          have HA6 := hidep (fun (W : World) => zq14 (n.tdiv 7 + sq) 6 W (by omega) (by omega))
          rw [<- har] at harr HA6
          have htm4 : ar.tmod 4 = ar % 4 := Int.tmod_eq_emod_of_nonneg harr.1
          have hwh4 : 0 <= ar.tmod 4 /\ ar.tmod 4 <= 3 := by rw [htm4]; omega
          have HWH := hidep hwh4
          have hw37 : IntKind.i64.wrap (37 + (i : Int)) = 37 + (i : Int) := IntWalk.i64_in _ (by omega)
          have htji : (tj : Int) < 12 := by omega
          have htj0 : (0 : Int) <= (tj : Int) := by omega
          have hbtw : wr.heap[Bt]? = some (.cells (zqd9.map Value.string).toArray 9) := HWK.out.2.2.2 _ _ _ _ (by decide) HT2.out
          have HSEE := hidep (fun (Z : World) (hZ : Below wr.heap.size wr Z) => show Z.cell? ⟨Bt, tj, none⟩ = some (.string (txt12 tj)) from by
            have h := zq0 hZ hbtw
            have hl : tj < zqd9.length := htr
            simp only [World.cell?, h]
            simp [txt12, List.getD_eq_getElem?_getD, hl])
          clear hsq har htm4 hq7 hbtw hwh4
          refine zq17 (MtX wr n k Rb Tb Bt tp i (.slice va5 L.length vc5) (txt12 tj)) ?r21 ?_
          case r21 =>
            intro K' hMK
            refine wp_region_noPanic (wp_region_held_drew (S := (fun Z => Below wr.heap.size wr Z)) (by kernel_rfl) ?hSz36 (fun hHeld => ?hRz36))
            case hSz36 => ((try dsimp only); (exact (Below.refl _ _).drew))
            refine tkC 0 rfl ?_
            refine tkC 1 rfl ?_
            refine tkC 2 rfl ?_
            refine tkB 3 rfl (.inl ⟨by kernel_rfl, fun w hSw => by (have hbt := HSEE.out _ hSw); go_simp; first | done | with_reducible rfl⟩) ?_
            refine tkC 4 rfl ?_
            refine tkC 5 rfl ?_
            refine tkC 6 rfl ?_
            refine tkC 7 rfl ?_
            refine tkC 8 rfl ?_
            refine tkC 9 rfl ?_
            refine tkC 12 rfl ?_
            refine tkC 13 rfl ?_
            refine tkC 14 rfl ?_
            refine wpAnyH_ready (rs := [10, 18]) (by kernel_rfl) (by simp) (AllReadyH.cons rfl (fun K hK => ?hcz37) (AllReadyH.cons rfl (fun K hK => ?hcz38) AllReadyH.nil))
            case' hcz37 =>
              go_simp
              (go_at_call 9; refine (HA6.out _).mono ?_; rintro e' w9 ⟨rfl, rfl⟩; have hk9 := hHeld; (try dsimp only))
              refine hK.out _ _ (by (try dsimp only); (first | (with_reducible exact hk9) | exact ((hHeld.setCell hQ _).setCell hQ _).setCell hQ _)) ?_
              clear hHeld hK; intro hHeld
              refine tkC 11 rfl ?_
              refine wpAnyH_ready (rs := [15, 18]) (by kernel_rfl) (by simp) (AllReadyH.cons rfl (fun K hK => ?hcz39) (AllReadyH.cons rfl (fun K hK => ?hcz40) AllReadyH.nil))
              case' hcz39 =>
                go_simp
                (go_at_call 22; refine (HCE.out _ _ (by omega) (by omega)).mono ?_; rintro e' w9 ⟨c, rfl, hc1, hc2, hb9⟩; have hk9 : Below wr.heap.size wr _ := (by first | exact hHeld.trans (hb9.mono hHeld.size) | exact hb9); (first | (have hL13 := zq0 hb9 hL13; obtain ⟨z0, z1, z2⟩ := zq27 hL13; have f0 := zq1 hL13 0; have f1 := zq1 hL13 1; have f2 := zq1 hL13 2) | skip); (try dsimp only))
                refine hK.out _ _ (by (try dsimp only); (first | (with_reducible exact hk9) | exact ((hHeld.setCell hQ _).setCell hQ _).setCell hQ _)) ?_
                clear hHeld hK; intro hHeld
                refine wpAnyH_ready (rs := [16, 18]) (by kernel_rfl) (by simp) (AllReadyH.cons rfl (fun K hK => ?hcz41) (AllReadyH.cons rfl (fun K hK => ?hcz42) AllReadyH.nil))
                case' hcz41 =>
                  go_simp
                  ((first | refine zq7 (fun X36 hBX hL96 => ?_) | refine zq3 (fun X36 hBX hL96 => ?_)); have hk9 : Below wr.heap.size wr _ := (by first | exact hHeld.trans (hBX.mono hHeld.size) | exact hBX); (first | (have hL13 := zq0 hBX hL13; obtain ⟨z0, z1, z2⟩ := zq27 hL13; have f0 := zq1 hL13 0; have f1 := zq1 hL13 1; have f2 := zq1 hL13 2) | skip); (try dsimp only))
                  refine hK.out _ _ (by (try dsimp only); (first | (with_reducible exact hk9) | exact ((hHeld.setCell hQ _).setCell hQ _).setCell hQ _)) ?_
                  clear hHeld hK; intro hHeld
                  refine tkC 17 rfl ?_
                  refine wpAnyH_ready (rs := [18]) (by kernel_rfl) (by simp) (AllReadyH.cons rfl (fun K hK => ?hcz43) AllReadyH.nil)
                  go_simp
                  ((first | refine zq7 (fun X13 hBX hL13 => ?_) | refine zq3 (fun X13 hBX hL13 => ?_)); have hk9 : Below wr.heap.size wr _ := (by first | exact hHeld.trans (hBX.mono hHeld.size) | exact hBX); have hQ := hHeld.size; (first | (have hL96 := zq0 hBX hL96) | skip); obtain ⟨z0, z1, z2⟩ := zq27 hL13; have f0 := zq1 hL13 0; have f1 := zq1 hL13 1; have f2 := zq1 hL13 2; (try dsimp only))
                  refine hK.out _ _ (by (try dsimp only); (first | (with_reducible exact hk9) | exact ((hHeld.setCell hQ _).setCell hQ _).setCell hQ _)) ?_
                  clear hHeld hK; intro hHeld
                  refine wpAnyH_ready (rs := [19]) (by kernel_rfl) (by simp) (AllReadyH.cons rfl (fun K hK => ?hcz44) AllReadyH.nil)
                  go_simp
                  (have hkX := hHeld)
                  refine hK.out _ _ (by (try dsimp only); (first | (with_reducible exact hk9) | exact ((hHeld.setCell hQ _).setCell hQ _).setCell hQ _)) ?_
                  clear hHeld hK; intro hHeld
                  refine wpAnyH_done (by kernel_rfl) ?_ _
                  clear hHeld
                  refine NoPanic.normal ?_
                case' hcz42 =>
                  go_simp
                  ((first | refine zq7 (fun X13 hBX hL13 => ?_) | refine zq3 (fun X13 hBX hL13 => ?_)); have hk9 : Below wr.heap.size wr _ := (by first | exact hHeld.trans (hBX.mono hHeld.size) | exact hBX); have hQ := hHeld.size; (first | (have hL96 := zq0 hBX hL96) | skip); obtain ⟨z0, z1, z2⟩ := zq27 hL13; have f0 := zq1 hL13 0; have f1 := zq1 hL13 1; have f2 := zq1 hL13 2; (try dsimp only))
                  refine hK.out _ _ (by (try dsimp only); (first | (with_reducible exact hk9) | exact ((hHeld.setCell hQ _).setCell hQ _).setCell hQ _)) ?_
                  clear hHeld hK; intro hHeld
                  refine wpAnyH_ready (rs := [16]) (by kernel_rfl) (by simp) (AllReadyH.cons rfl (fun K hK => ?hcz45) AllReadyH.nil)
                  go_simp
                  ((first | refine zq7 (fun X36 hBX hL96 => ?_) | refine zq3 (fun X36 hBX hL96 => ?_)); have hk9 : Below wr.heap.size wr _ := (by first | exact hHeld.trans (hBX.mono hHeld.size) | exact hBX); (first | (have hL13 := zq0 hBX hL13; obtain ⟨z0, z1, z2⟩ := zq27 hL13; have f0 := zq1 hL13 0; have f1 := zq1 hL13 1; have f2 := zq1 hL13 2) | skip); (try dsimp only))
                  refine hK.out _ _ (by (try dsimp only); (first | (with_reducible exact hk9) | exact ((hHeld.setCell hQ _).setCell hQ _).setCell hQ _)) ?_
                  clear hHeld hK; intro hHeld
                  refine tkC 17 rfl ?_
                  refine wpAnyH_ready (rs := [19]) (by kernel_rfl) (by simp) (AllReadyH.cons rfl (fun K hK => ?hcz46) AllReadyH.nil)
                  go_simp
                  (have hkX := hHeld)
                  refine hK.out _ _ (by (try dsimp only); (first | (with_reducible exact hk9) | exact ((hHeld.setCell hQ _).setCell hQ _).setCell hQ _)) ?_
                  clear hHeld hK; intro hHeld
                  refine wpAnyH_done (by kernel_rfl) ?_ _
                  clear hHeld
                  refine NoPanic.normal ?_
              case' hcz40 =>
                go_simp
                ((first | refine zq7 (fun X13 hBX hL13 => ?_) | refine zq3 (fun X13 hBX hL13 => ?_)); have hk9 : Below wr.heap.size wr _ := (by first | exact hHeld.trans (hBX.mono hHeld.size) | exact hBX); have hQ := hHeld.size; (first | (have hL96 := zq0 hBX hL96) | skip); obtain ⟨z0, z1, z2⟩ := zq27 hL13; have f0 := zq1 hL13 0; have f1 := zq1 hL13 1; have f2 := zq1 hL13 2; (try dsimp only))
                refine hK.out _ _ (by (try dsimp only); (first | (with_reducible exact hk9) | exact ((hHeld.setCell hQ _).setCell hQ _).setCell hQ _)) ?_
                clear hHeld hK; intro hHeld
                refine wpAnyH_ready (rs := [15]) (by kernel_rfl) (by simp) (AllReadyH.cons rfl (fun K hK => ?hcz47) AllReadyH.nil)
                go_simp
                (go_at_call 22; refine (HCE.out _ _ (by omega) (by omega)).mono ?_; rintro e' w9 ⟨c, rfl, hc1, hc2, hb9⟩; have hk9 : Below wr.heap.size wr _ := (by first | exact hHeld.trans (hb9.mono hHeld.size) | exact hb9); (first | (have hL13 := zq0 hb9 hL13; obtain ⟨z0, z1, z2⟩ := zq27 hL13; have f0 := zq1 hL13 0; have f1 := zq1 hL13 1; have f2 := zq1 hL13 2) | skip); (try dsimp only))
                refine hK.out _ _ (by (try dsimp only); (first | (with_reducible exact hk9) | exact ((hHeld.setCell hQ _).setCell hQ _).setCell hQ _)) ?_
                clear hHeld hK; intro hHeld
                refine wpAnyH_ready (rs := [16]) (by kernel_rfl) (by simp) (AllReadyH.cons rfl (fun K hK => ?hcz48) AllReadyH.nil)
                go_simp
                ((first | refine zq7 (fun X36 hBX hL96 => ?_) | refine zq3 (fun X36 hBX hL96 => ?_)); have hk9 : Below wr.heap.size wr _ := (by first | exact hHeld.trans (hBX.mono hHeld.size) | exact hBX); (first | (have hL13 := zq0 hBX hL13; obtain ⟨z0, z1, z2⟩ := zq27 hL13; have f0 := zq1 hL13 0; have f1 := zq1 hL13 1; have f2 := zq1 hL13 2) | skip); (try dsimp only))
                refine hK.out _ _ (by (try dsimp only); (first | (with_reducible exact hk9) | exact ((hHeld.setCell hQ _).setCell hQ _).setCell hQ _)) ?_
                clear hHeld hK; intro hHeld
                refine tkC 17 rfl ?_
                refine wpAnyH_ready (rs := [19]) (by kernel_rfl) (by simp) (AllReadyH.cons rfl (fun K hK => ?hcz49) AllReadyH.nil)
                go_simp
                (have hkX := hHeld)
                refine hK.out _ _ (by (try dsimp only); (first | (with_reducible exact hk9) | exact ((hHeld.setCell hQ _).setCell hQ _).setCell hQ _)) ?_
                clear hHeld hK; intro hHeld
                refine wpAnyH_done (by kernel_rfl) ?_ _
                clear hHeld
                refine NoPanic.normal ?_
            case' hcz38 =>
              go_simp
              ((first | refine zq7 (fun X13 hBX hL13 => ?_) | refine zq3 (fun X13 hBX hL13 => ?_)); have hk9 : Below wr.heap.size wr _ := (by first | exact hHeld.trans (hBX.mono hHeld.size) | exact hBX); have hQ := hHeld.size; (first | (have hL96 := zq0 hBX hL96) | skip); obtain ⟨z0, z1, z2⟩ := zq27 hL13; have f0 := zq1 hL13 0; have f1 := zq1 hL13 1; have f2 := zq1 hL13 2; (try dsimp only))
              refine hK.out _ _ (by (try dsimp only); (first | (with_reducible exact hk9) | exact ((hHeld.setCell hQ _).setCell hQ _).setCell hQ _)) ?_
              clear hHeld hK; intro hHeld
              refine wpAnyH_ready (rs := [10]) (by kernel_rfl) (by simp) (AllReadyH.cons rfl (fun K hK => ?hcz50) AllReadyH.nil)
              go_simp
              (go_at_call 9; refine (HA6.out _).mono ?_; rintro e' w9 ⟨rfl, rfl⟩; have hk9 := hHeld; (try dsimp only))
              refine hK.out _ _ (by (try dsimp only); (first | (with_reducible exact hk9) | exact ((hHeld.setCell hQ _).setCell hQ _).setCell hQ _)) ?_
              clear hHeld hK; intro hHeld
              refine tkC 11 rfl ?_
              refine wpAnyH_ready (rs := [15]) (by kernel_rfl) (by simp) (AllReadyH.cons rfl (fun K hK => ?hcz51) AllReadyH.nil)
              go_simp
              (go_at_call 22; refine (HCE.out _ _ (by omega) (by omega)).mono ?_; rintro e' w9 ⟨c, rfl, hc1, hc2, hb9⟩; have hk9 : Below wr.heap.size wr _ := (by first | exact hHeld.trans (hb9.mono hHeld.size) | exact hb9); (first | (have hL13 := zq0 hb9 hL13; obtain ⟨z0, z1, z2⟩ := zq27 hL13; have f0 := zq1 hL13 0; have f1 := zq1 hL13 1; have f2 := zq1 hL13 2) | skip); (try dsimp only))
              refine hK.out _ _ (by (try dsimp only); (first | (with_reducible exact hk9) | exact ((hHeld.setCell hQ _).setCell hQ _).setCell hQ _)) ?_
              clear hHeld hK; intro hHeld
              refine wpAnyH_ready (rs := [16]) (by kernel_rfl) (by simp) (AllReadyH.cons rfl (fun K hK => ?hcz52) AllReadyH.nil)
              go_simp
              ((first | refine zq7 (fun X36 hBX hL96 => ?_) | refine zq3 (fun X36 hBX hL96 => ?_)); have hk9 : Below wr.heap.size wr _ := (by first | exact hHeld.trans (hBX.mono hHeld.size) | exact hBX); (first | (have hL13 := zq0 hBX hL13; obtain ⟨z0, z1, z2⟩ := zq27 hL13; have f0 := zq1 hL13 0; have f1 := zq1 hL13 1; have f2 := zq1 hL13 2) | skip); (try dsimp only))
              refine hK.out _ _ (by (try dsimp only); (first | (with_reducible exact hk9) | exact ((hHeld.setCell hQ _).setCell hQ _).setCell hQ _)) ?_
              clear hHeld hK; intro hHeld
              refine tkC 17 rfl ?_
              refine wpAnyH_ready (rs := [19]) (by kernel_rfl) (by simp) (AllReadyH.cons rfl (fun K hK => ?hcz53) AllReadyH.nil)
              go_simp
              (have hkX := hHeld)
              refine hK.out _ _ (by (try dsimp only); (first | (with_reducible exact hk9) | exact ((hHeld.setCell hQ _).setCell hQ _).setCell hQ _)) ?_
              clear hHeld hK; intro hHeld
              refine wpAnyH_done (by kernel_rfl) ?_ _
              clear hHeld
              refine NoPanic.normal ?_
            all_goals
              dsimp only [Exit.then]
              refine hMK _ _ ⟨_, .slice (some ⟨_, 0, none⟩) 1 1, _, [c], HWH.out.1, HWH.out.2, zq79 hc1 hc2, by kernel_rfl, rfl, by kernel_rfl, by kernel_rfl, by kernel_rfl, by kernel_rfl, by kernel_rfl, by kernel_rfl, by kernel_rfl, by kernel_rfl, by kernel_rfl, ((hkX.setCell hQ _).setCell hQ _).setCell hQ _, set3_heap hL13 _ _ _, (zq6b [c] hL96 (by simp) (by simp; omega)).keeps (set3_keeps hL13 _ _ _) (by decide), hQ⟩
          rintro ⟨tm, ds⟩ X21 ⟨Q, u, wh, cl, hwh1, hwh2, hcl, hts, hds, e0, e2, e3, e4, e5, e9, e10, e11, e13, hb21, hq21, hy21, hQ21⟩
          dsimp only at hts hds e0 e2 e3 e4 e5 e9 e10 e11 e13
          subst hds
          rw [zq53 tm _ hts, e0, e2, e3, e4, e5, e9, e10, e11, e13]
          clear e0 e2 e3 e4 e5 e9 e10 e11 e13 hts HA6 HSEE HWH harr hwa7 hwsq hw37 hwd7 htji htj0
          (try apply_assumption)
          have HX21 := hidep (And.intro hb21 (And.intro hq21 (And.intro hy21 hQ21)))
          have HWC := hidep (And.intro hwh1 (And.intro hwh2 hcl))
          have hlq := lt_of_block hq21
          obtain ⟨z0, z1, z2⟩ := zq27 hq21
          have f2 := zq1 hq21 2
          clear hb21 hq21 hy21 hwh1 hwh2 hcl
          have hq11 := zq3f (n := n) (d := 11) (by decide) h1 h2
          have hwd11 : IntKind.i64.wrap (n.tdiv 11) = n.tdiv 11 := IntWalk.i64_in _ (by omega)
          have hwa11 : IntKind.i64.wrap (n.tdiv 11 + (i : Int)) = n.tdiv 11 + (i : Int) := IntWalk.i64_in _ (by omega)
          obtain ⟨a3, ha3⟩ : ∃ x, x = zqd (n.tdiv 11 + (i : Int)) 3 := ⟨_, rfl⟩
          have HA3 := hidep (fun (W : World) => zq14 (n.tdiv 11 + (i : Int)) 3 W (by omega) (by omega))
          rw [<- ha3] at HA3
          clear ha3
          go_upto_if 103 with (go_at_call 9; refine (HA3.out _).mono ?_; rintro e w5 ⟨rfl, rfl⟩)
          clear hwa11 hwd11 hq11 HA3
          refine zq17 (MtX wr n k Rb Tb Bt tp i (.slice va5 L.length vc5) (txt12 tj)) ?r23 ?_
          case r23 =>
            intro K' hMK
            by_cases ha0 : a3 = 0
            · have hae : (a3 == 0) = true := by simp [ha0]
              have hq13 := zq3f (n := n) (d := 13) (by decide) h1 h2
              have hwd13 : IntKind.i64.wrap (n.tdiv 13) = n.tdiv 13 := IntWalk.i64_in _ (by omega)
              have hwa13 : IntKind.i64.wrap (n.tdiv 13 + (i : Int)) = n.tdiv 13 + (i : Int) := IntWalk.i64_in _ (by omega)
              obtain ⟨a26, ha26⟩ : ∃ x, x = zqd (n.tdiv 13 + (i : Int)) 26 := ⟨_, rfl⟩
              have har26 := zqe (n.tdiv 13 + (i : Int)) 26 (by decide)
              have HA26 := hidep (fun (W : World) => zq14 (n.tdiv 13 + (i : Int)) 26 W (by omega) (by omega))
              rw [<- ha26] at HA26 har26
              have HC36 := hidep (fun (W : World) => HCE.out 36 W (by decide) (by decide))
              have HC26 := hidep (fun (W : World) => HCE.out a26 W har26.1 (by omega))
              clear ha26 ha0 z0 z1 z2 f2
              go_wp2_with (first
                | (go_at_call 9; refine (HA26.out _).mono ?_; rintro e w5 ⟨rfl, rfl⟩)
                | (go_at_call 22; first
                  | ((with_reducible refine (HC36.out _).mono ?_); rintro e wA ⟨c, rfl, hc1, hc2, hbA⟩; have hqA := zq0 hbA HX21.out.2.1)
                  | ((with_reducible refine (HC26.out _).mono ?_); rintro e wB ⟨d, rfl, hd1, hd2, hbB⟩; have hqB := zq0 hbB hqA; obtain ⟨z0, z1, z2⟩ := zq27 hqB; have f2 := zq1 hqB 2; have hlq := lt_of_block hqB)))
              have hbAB := (HX21.out.1.trans (hbA.mono HX21.out.1.size)).trans (hbB.mono (Nat.le_trans HX21.out.1.size hbA.size))
              obtain ⟨g1, g2, g3⟩ := mt_set (l := [c, d]) hbAB hqB HX21.out.2.2.2 (by simp) (by simp; omega)
              first
                | exact ⟨_, _, _, [c, d], HWC.out.1, HWC.out.2.1, zq8c hc1 hc2 hd1 hd2, by kernel_rfl, rfl, rfl, rfl, rfl, rfl, rfl, rfl, rfl, rfl, rfl, g1, g2, g3, HX21.out.2.2.2⟩
                | exact hMK _ _ ⟨_, _, _, [c, d], HWC.out.1, HWC.out.2.1, zq8c hc1 hc2 hd1 hd2, by kernel_rfl, rfl, rfl, rfl, rfl, rfl, rfl, rfl, rfl, rfl, rfl, g1, g2, g3, HX21.out.2.2.2⟩
            · have hae : (a3 == 0) = false := by simp [ha0]
              clear ha0
              go_wp2
              first
                | exact ⟨Q, u, wh, cl, HWC.out.1, HWC.out.2.1, HWC.out.2.2, by kernel_rfl, rfl, rfl, rfl, rfl, rfl, rfl, rfl, rfl, rfl, rfl, HX21.out.1, HX21.out.2.1, HX21.out.2.2.1, HX21.out.2.2.2⟩
                | exact hMK _ _ ⟨Q, u, wh, cl, HWC.out.1, HWC.out.2.1, HWC.out.2.2, by kernel_rfl, rfl, rfl, rfl, rfl, rfl, rfl, rfl, rfl, rfl, rfl, HX21.out.1, HX21.out.2.1, HX21.out.2.2.1, HX21.out.2.2.2⟩
          clear HX21 HWC z0 z1 z2 f2 hlq hQ21
          rintro ⟨tm, ds⟩ X23 ⟨Q, u, wh, cl, hwh1, hwh2, hcl, hts, hds, e0, e2, e3, e4, e5, e9, e10, e11, e13, hb23, hq23, hy23, hQ23⟩
          dsimp only at hts hds e0 e2 e3 e4 e5 e9 e10 e11 e13
          subst hds
          rw [zq53 tm _ hts, e0, e2, e3, e4, e5, e9, e10, e11, e13]
          clear e0 e2 e3 e4 e5 e9 e10 e11 e13 hts
          (try apply_assumption)
          have HX23 := hidep (And.intro hb23 (And.intro hq23 (And.intro hy23 hQ23)))
          have HWC := hidep (And.intro hwh1 (And.intro hwh2 hcl))
          clear hb23 hq23 hy23 hwh1 hwh2 hcl hQ23
          have hq17 := zq3f (n := n) (d := 17) (by decide) h1 h2
          have hwd17 : IntKind.i64.wrap (n.tdiv 17) = n.tdiv 17 := IntWalk.i64_in _ (by omega)
          have hwa17 : IntKind.i64.wrap (n.tdiv 17 + (i : Int)) = n.tdiv 17 + (i : Int) := IntWalk.i64_in _ (by omega)
          obtain ⟨a23, ha23⟩ : ∃ x, x = zqd (n.tdiv 17 + (i : Int)) 23 := ⟨_, rfl⟩
          have HA23 := hidep (fun (W : World) => zq14 (n.tdiv 17 + (i : Int)) 23 W (by omega) (by omega))
          rw [<- ha23] at HA23
          clear ha23
          go_upto_if 120 with (go_at_call 9; refine (HA23.out _).mono ?_; rintro e w5 ⟨rfl, rfl⟩)
          clear hwa17 hwd17 hq17 HA23
          refine zq17 (MtX wr n k Rb Tb Bt tp i (.slice va5 L.length vc5) (txt12 tj)) ?r25 ?_
          case r25 =>
            intro K' hMK
            by_cases ha0 : a23 = 0
            · have hae : (a23 == 0) = true := by simp [ha0]
              have hq19 := zq3f (n := n) (d := 19) (by decide) h1 h2
              have hwd19 : IntKind.i64.wrap (n.tdiv 19) = n.tdiv 19 := IntWalk.i64_in _ (by omega)
              have hq23d := zq3f (n := n) (d := 23) (by decide) h1 h2
              have hwd23 : IntKind.i64.wrap (n.tdiv 23) = n.tdiv 23 := IntWalk.i64_in _ (by omega)
              obtain ⟨p1, hp1⟩ : ∃ x, x = zqd (n.tdiv 19) 32 := ⟨_, rfl⟩
              obtain ⟨p2, hp2⟩ : ∃ x, x = zqd (n.tdiv 23) 32 := ⟨_, rfl⟩
              have hr1 := zqe (n.tdiv 19) 32 (by decide)
              have hr2 := zqe (n.tdiv 23) 32 (by decide)
              have HP1 := hidep (fun (W : World) => zq14 (n.tdiv 19) 32 W (by omega) (by omega))
              have HP2 := hidep (fun (W : World) => zq14 (n.tdiv 23) 32 W (by omega) (by omega))
              rw [<- hp1] at HP1 hr1
              rw [<- hp2] at HP2 hr2
              have HC1 := hidep (fun (W : World) => HCE.out p1 W hr1.1 (by omega))
              have HC2 := hidep (fun (W : World) => HCE.out p2 W hr2.1 (by omega))
              clear hp1 hp2 ha0
              go_wp2_with (first
                | (go_at_call 9; first
                  | ((with_reducible refine (HP1.out _).mono ?_); rintro e w5 ⟨rfl, rfl⟩)
                  | ((with_reducible refine (HP2.out _).mono ?_); rintro e w5 ⟨rfl, rfl⟩))
                | (go_at_call 22; first
                  | ((with_reducible refine (HC1.out _).mono ?_); rintro e wA ⟨c, rfl, hc1, hc2, hbA⟩; have hqA := zq0 hbA HX23.out.2.1)
                  | ((with_reducible refine (HC2.out _).mono ?_); rintro e wB ⟨d, rfl, hd1, hd2, hbB⟩; have hqB := zq0 hbB hqA; obtain ⟨z0, z1, z2⟩ := zq27 hqB; have f2 := zq1 hqB 2; have hlq := lt_of_block hqB)))
              have hbAB := (HX23.out.1.trans (hbA.mono HX23.out.1.size)).trans (hbB.mono (Nat.le_trans HX23.out.1.size hbA.size))
              obtain ⟨g1, g2, g3⟩ := mt_set (l := [c, d]) hbAB hqB HX23.out.2.2.2 (by simp) (by simp; omega)
              first
                | exact ⟨_, _, _, [c, d], HWC.out.1, HWC.out.2.1, zq8c hc1 hc2 hd1 hd2, by kernel_rfl, rfl, rfl, rfl, rfl, rfl, rfl, rfl, rfl, rfl, rfl, g1, g2, g3, HX23.out.2.2.2⟩
                | exact hMK _ _ ⟨_, _, _, [c, d], HWC.out.1, HWC.out.2.1, zq8c hc1 hc2 hd1 hd2, by kernel_rfl, rfl, rfl, rfl, rfl, rfl, rfl, rfl, rfl, rfl, rfl, g1, g2, g3, HX23.out.2.2.2⟩
            · have hae : (a23 == 0) = false := by simp [ha0]
              clear ha0
              go_wp2
              first
                | exact ⟨Q, u, wh, cl, HWC.out.1, HWC.out.2.1, HWC.out.2.2, by kernel_rfl, rfl, rfl, rfl, rfl, rfl, rfl, rfl, rfl, rfl, rfl, HX23.out.1, HX23.out.2.1, HX23.out.2.2.1, HX23.out.2.2.2⟩
                | exact hMK _ _ ⟨Q, u, wh, cl, HWC.out.1, HWC.out.2.1, HWC.out.2.2, by kernel_rfl, rfl, rfl, rfl, rfl, rfl, rfl, rfl, rfl, rfl, rfl, HX23.out.1, HX23.out.2.1, HX23.out.2.2.1, HX23.out.2.2.2⟩
          clear HX23 HWC
          rintro ⟨tm, ds⟩ X25 ⟨Q, u, wh, cl, hwh1, hwh2, hcl, hts, hds, e0, e2, e3, e4, e5, e9, e10, e11, e13, hb25, hq25, hy25, hQ25⟩
          dsimp only at hts hds e0 e2 e3 e4 e5 e9 e10 e11 e13
          subst hds
          rw [zq53 tm _ hts, e0, e2, e3, e4, e5, e9, e10, e11, e13]
          clear e0 e2 e3 e4 e5 e9 e10 e11 e13 hts
          (try apply_assumption)
          obtain ⟨ua, uc, rfl, _, _⟩ := hy25.form
          obtain ⟨z0, z1, z2⟩ := zq27 hq25
          have hbl : Below X25.heap.size X25 (X25.alloc (.cells #[.string (txt12 tj), .int .i64 wh, .slice ua cl.length uc] 59)) := (Below.refl _ _).alloc (Nat.le_refl _) _
          have hbw := hb25.trans (hbl.mono hb25.size)
          have HBW := hidep (And.intro hbw (And.intro hbl hy25))
          have HWC := hidep (And.intro hwh1 (And.intro hwh2 hcl))
          have hw125 : w1.heap.size <= X25.heap.size := Nat.le_trans HWK.out.2.1.size hb25.size
          clear hbl hbw hb25 hq25 hy25 hwh1 hwh2 hcl
          go_upto_region 19 with (at_builtin; go_loud (refine zq4 _ rfl _ _ rfl zq36 w1.heap.size (.slice va5 L.length vc5) L.length (zq10 L us) rfl (zq2 HOWN.out HBW.out.1) _ _ _ _ rfl (zq28 (heap_alloc_new _ _)) (by intro u hu; simp at hu; rcases hu with rfl | rfl | rfl <;> rfl) (by unfold maxLen; omega) (by omega) (by rw [World.size_alloc]; omega) ?_; intro v7 w7 ho7 hg7 hown7 hnl7; clear hnl7; obtain ⟨a7, c7, hv7, _, _⟩ := (Rd.of_own ho7).form; subst hv7))
          have hnew := zqcf (na' := 26) (nb' := 6) (r := ⟨txt12 tj, wh, cl⟩) (HWK.out.1.below HBW.out.1) HUS.out.1 (fun j h h' => (HUS.out.2 j h h').below HBW.out.1) (zq2 HOWN.out HBW.out.1) (HBW.out.2.2.below HBW.out.2.1) (by exact hg7) (by exact ho7) (right_more htr HWC.out.1 HWC.out.2.1 HWC.out.2.2) (fun j hj => .inl hj) (fun j hj => .inl hj)
          have hb7 : Below w1.heap.size w1 w7 := (HWK.out.2.1.trans (HBW.out.1.mono HWK.out.2.1.size)).grown hg7 (by rw [World.size_alloc]; omega) (fun x hx => (HOWN.out.lt x hx).1)
          have hk7 : Keeps (fun t => t ≠ 59) X2 w7 := (HWK.out.2.2.trans (Keeps.below _ HBW.out.1)).trans (Keeps.grown (zq2 HOWN.out HBW.out.1) hg7 (fun _ h => h))
          have HNW := hidep (And.intro hnew (And.intro hb7 hk7))
          clear hnew hb7 hk7 ho7 hg7 hown7 z0 z1 z2
          go_wp2
          refine ⟨LoopI.mk rfl ⟨rfl, rfl, rfl, rfl, rfl, rfl, rfl, i + 1, _, by omega, by show Value.int _ _ = _; go_num, HNW.out.1, by rw [List.length_append, List.length_singleton, HLN.out]; omega, HNW.out.2.1, HNW.out.2.2⟩, ?_⟩
          show tp - _ < tp - _
          simp [natI]; omega
        · have hii : ¬ (i : Int) < (tp : Int) := by omega
          have hl40 : L.length <= 90 := by omega
          have hmo : MadeO (onceZ L) := ⟨L, rfl, hl40, hR.right, hR.lett, hR.mark⟩
          have HON := hidep (once_T hR (by omega))
          have HKB := hidep (And.intro hmo hbw)
          have hv0 : ∀ g, va.ownBlock = some g -> g < w1.heap.size := fun g e => by
            obtain ⟨xs, hx⟩ := HT.out.1.ra.own
            exact (hx.lt g e).2
          have hv1 : ∀ g, vb.ownBlock = some g -> g < w1.heap.size := fun g e => by
            obtain ⟨xs, hx⟩ := HT.out.1.rb.own
            exact (hx.lt g e).2
          have HV := hidep (And.intro hv0 hv1)
          clear hmo hv0 hv1 hR hLn hbw hkt hi hil hl40
          rcases (by omega : k = 0 \/ k = 1) with rfl | rfl
          · go_upto_region 4 with (go_at_call 23; refine HON.out.mono ?_; rintro e w5 ⟨a5, m5, c5, rfl, hru, hb5⟩; have hbx := (HT.out.1.below (HKB.out.2.trans (hb5.mono HKB.out.2.size))).box; have hcx := (tb7 hbx).1; have hfx := zq1 hbx 0; clear hbx)
            have hT5 := HT.out.1.below (HKB.out.2.trans (hb5.mono HKB.out.2.size))
            have hge : X0.heap.size <= wr.heap.size := Nat.le_trans HT.out.1.low.size HKB.out.2.size
            have hset := hT5.setA (m := w1.heap.size) (rulesT_base hru hge) (fun g hg => by
              obtain ⟨xs, hx⟩ := hru.own
              exact Nat.le_trans HKB.out.2.size (hx.lt g hg).1) HV.out.2
            have HSET := hidep hset
            clear hT5 hset hru hb5 hcx hfx
            go_wp2
            refine ⟨LoopI.mk rfl ⟨rfl, rfl, rfl, rfl, 1, _, _, _, _, by decide, rfl, HSET.out, fun _ => HKB.out.1, fun h => absurd h (by decide)⟩, ?_⟩
            show 2 - _ < 2 - _
            simp [natI]
          · go_upto_region 4 with (go_at_call 23; refine HON.out.mono ?_; rintro e w5 ⟨a5, m5, c5, rfl, hru, hb5⟩; have hbx := (HT.out.1.below (HKB.out.2.trans (hb5.mono HKB.out.2.size))).box; have hcx := (tb7 hbx).2.1; have hfx := zq1 hbx 1; clear hbx)
            have hT5 := HT.out.1.below (HKB.out.2.trans (hb5.mono HKB.out.2.size))
            have hge : X0.heap.size <= wr.heap.size := Nat.le_trans HT.out.1.low.size HKB.out.2.size
            have hset := hT5.setB (m := w1.heap.size) (rulesT_base hru hge) (fun g hg => by
              obtain ⟨xs, hx⟩ := hru.own
              exact Nat.le_trans HKB.out.2.size (hx.lt g hg).1) HV.out.1
            have HSET := hidep hset
            clear hT5 hset hru hb5 hcx hfx
            go_wp2
            refine ⟨LoopI.mk rfl ⟨rfl, rfl, rfl, rfl, 2, _, _, _, _, by decide, rfl, HSET.out, fun _ => HT.out.2.1 (by decide), fun _ => HKB.out.1⟩, ?_⟩
            show 2 - _ < 2 - _
            simp [natI]
  · have hke : k = 2 := by omega
    have hki : ¬ (k : Int) < 2 := by omega
    have hM : MadeO La /\ MadeO Lb := ⟨HT.out.2.1 (by omega), HT.out.2.2 (by omega)⟩
    have HM := hidep (And.intro hM HT.out.1)
    clear hke hM HT hk hk2
    obtain ⟨w2, hw2⟩ : ∃ w2 : World, w2 = wr := ⟨_, rfl⟩
    rw [<- hw2] at HM ⊢
    clear hw2
    go_upto_region 29 with (fail)
    refine wp_loop (LoopI 182 (fun tm ds wr => (slot tm 0) = .int .i64 n /\ (slot tm 2) = .pointer (some ⟨Rb, 0, none⟩) /\ (slot tm 3) = .pointer (some ⟨Tb, 0, none⟩) /\ ds = [] /\ VDg w2 Tb va vb (slot tm 14) wr)) (fun a' wr => 10 - natI (a'.tmps.getD 14 undef)) ?dgStart ?dgRound
    case' dgStart => refine LoopI.mk rfl ?_
    case' dgRound => (rintro ⟨t, ds⟩ wr ⟨hts, hrel⟩; dsimp only at hts hrel; rw [zq53 t ds hts])
    case dgStart => exact ⟨rfl, rfl, rfl, rfl, 0, vnil, [], Nat.zero_le _, rfl, HM.out.2.box, World.ownsRow_nil _ _ _ _, rfl, fun x h => (by cases h), Turned.refl _ _⟩
    obtain ⟨e0, e2, e3, hds, i, vd, l, hi, e14, hbx, hown, hll, hlr, htu⟩ := hrel
    subst hds
    rw [e0, e2, e3, e14]
    clear e0 e2 e3 e14 hts hki
    obtain ⟨da, dc, rfl, _, _⟩ := (Rd.of_own hown).form
    have HD := hidep (And.intro hbx (And.intro hown (And.intro hll (And.intro hlr htu))))
    clear hbx hown hll hlr htu
    by_cases hil : i < 10
    · have hii : (i : Int) < 10 := by omega
      have hwi : IntKind.i64.wrap ((i : Int) + 1) = (i : Int) + 1 := IntWalk.i64_in _ (by omega)
      have HNE := hidep (show (Value.slice da i dc).ownBlock ≠ some Tb from fun e => by
        obtain ⟨cur2, h2⟩ := zq1d HD.out.2.1 e
        rw [HD.out.1] at h2
        injection h2 with h2
        injection h2 with _ h3 _
        exact absurd h3 (by decide))
      have HSEE := hidep (fun (Z : World) (hZ : Z.heap[Tb]? = some (.cells #[va, vb, .slice da i dc, vnil, vnil, vnil, vnil] 29)) => (tb7 hZ).2.2.1)
      have HC := hidep (fun (W : World) => HCE.out (i : Int) W (by omega) (by omega))
      have hw2s : w2.heap.size <= wr.heap.size := HD.out.2.2.2.2.size
      go_upto_region 31 with (fail)
      refine wp_region_noPanic (zq3c (S := (fun Z => Z.heap[Tb]? = some (.cells #[va, vb, .slice da i dc, vnil, vnil, vnil, vnil] 29))) [8] (by kernel_rfl) ?hSz54 (fun hHeld => ?hRz54))
      case hSz54 => ((try dsimp only); (exact HD.out.1))
      refine tkD 0 rfl (.inl ⟨by kernel_rfl, fun w hSw => by (have hlb := HSEE.out _ hSw); go_simp; first | done | with_reducible rfl⟩) ?_
      refine tkD 1 rfl (.inl ⟨by kernel_rfl, fun w hSw => by (have hlb := HSEE.out _ hSw); go_simp; first | done | with_reducible rfl⟩) ?_
      refine tkD 2 rfl (.inl ⟨by kernel_rfl, fun w hSw => by (have hlb := HSEE.out _ hSw); go_simp; first | done | with_reducible rfl⟩) ?_
      refine tkD 3 rfl (.inl ⟨by kernel_rfl, fun w hSw => by (have hlb := HSEE.out _ hSw); go_simp; first | done | with_reducible rfl⟩) ?_
      refine zq16 (rs := [4]) (by kernel_rfl) (by simp) (AllReadyD.cons rfl (by kernel_rfl) (fun K hK => ?hcz55) AllReadyD.nil)
      go_simp
      (go_at_call 22; refine (HC.out _).mono ?_; rintro e' w9 ⟨c, rfl, hc1, hc2, hb9⟩; have hk9 : Below wr.heap.size wr w9 := (by first | exact hb9 | exact ((Below.refl _ _).drew).trans hb9); have hs := zq0 hk9 HD.out.1; (try dsimp only))
      refine hK.out _ _ (by (try dsimp only); (exact hs)) ?_
      clear hHeld hK; intro hHeld
      refine zq16 (rs := [5]) (by kernel_rfl) (by simp) (AllReadyD.cons rfl (by kernel_rfl) (fun K hK => ?hcz56) AllReadyD.nil)
      go_simp
      ((first | refine zq7 (fun X6 hBX hL6 => ?_) | refine zq3 (fun X6 hBX hL6 => ?_)); have hk9 := hk9.trans (hBX.mono hk9.size); have hs := zq0 hk9 HD.out.1; (try dsimp only))
      refine hK.out _ _ (by (try dsimp only); (exact hs)) ?_
      clear hHeld hK; intro hHeld
      refine zq16 (rs := [6]) (by kernel_rfl) (by simp) (AllReadyD.cons rfl (by kernel_rfl) (fun K hK => ?hcz57) AllReadyD.nil)
      (refine zq11 _ rfl (.tmp 148) (.tmp 152) rfl slByt w2.heap.size (.slice da i dc) i (byC l) rfl (zq2 HD.out.2.1 hk9) _ _ _ _ rfl (zq28 hL6) (by intro u hu; simp at hu; subst hu; rfl) (by unfold maxLen; omega) (by omega) (Nat.le_trans hw2s hk9.size) ?_; intro v7 w7 ho7 hg7 hown7 hnl7; clear hnl7; have hs6 := hs; have hs := (hg7.block _ (lt_of_block hs6) (fun e => HNE.out e.symm)).trans hs6; have hfz : w7.frozen? ⟨Tb, 2, none⟩ = false := zq1 hs 2; have hc7 := (tb7 hs).2.2.1; obtain ⟨a7, c7, hv7, _, _⟩ := (Rd.of_own ho7).form; subst hv7; (try dsimp only))
      refine hK.out _ _ (by (try dsimp only); (exact hs)) ?_
      clear hHeld hK; intro hHeld
      refine tkD 7 rfl (.inl ⟨by kernel_rfl, fun w hSw => by (have hlb := HSEE.out _ hSw); go_simp; first | done | with_reducible rfl⟩) ?_
      refine zq16 (rs := [8]) (by kernel_rfl) (by simp) (AllReadyD.last rfl (by kernel_rfl) (fun K hK => ?hcz58) AllReadyD.nil)
      go_simp
      (skip)
      refine hK.out _ _ ?_
      clear hHeld hK
      have hHeld := True.intro
      refine wpAnyH_done (by kernel_rfl) ?_ _
      clear hHeld
      refine NoPanic.normal ?_
      all_goals
        have hS : Turned (fun b => b = Tb) w7 (w7.setCell ⟨Tb, 2, none⟩ (.slice a7 (i + 1) c7)) := (Turned.refl _ _).setCell ⟨Tb, 2, none⟩ _ (.inr rfl)
        have hT7 : Turned (fun b => b = Tb) w2 (w7.setCell ⟨Tb, 2, none⟩ (.slice a7 (i + 1) c7)) := ((HD.out.2.2.2.2.below hk9).own hg7 (fun r hr => (HD.out.2.1.lt r hr).1)).setCell ⟨Tb, 2, none⟩ _ (.inr rfl)
        have ho8 := zq32 ho7 hS (fun g hg e => by
          rw [e] at hg
          obtain ⟨cur2, h2⟩ := zq1d ho7 hg
          rw [hs] at h2
          injection h2 with h2
          injection h2 with _ h3 _
          exact absurd h3 (by decide))
        have hset := zq12 hs 2 (.slice a7 (i + 1) c7)
        have HR := hidep (And.intro hset (And.intro ho8 hT7))
        have HCC := hidep (And.intro hc1 hc2)
        clear hS hT7 ho8 hset ho7 hg7 hown7 hs hs6 hfz hc7 hc1 hc2
        go_wp2
        refine ⟨LoopI.mk rfl ⟨rfl, rfl, rfl, rfl, i + 1, _, l ++ [c], by omega, by show Value.int _ _ = _; go_num, HR.out.1, by simpa [byC] using HR.out.2.1, by rw [List.length_append, HD.out.2.2.1]; rfl, fun x hx => ?_, HR.out.2.2⟩, ?_⟩
        · rcases List.mem_append.1 hx with hx | hx
          · exact HD.out.2.2.2.1 x hx
          · rw [List.mem_singleton] at hx
            rw [hx]
            exact HCC.out
        · show 10 - _ < 10 - _
          simp [natI]; omega
    · have hii : ¬ (i : Int) < 10 := by omega
      have hie : i = 10 := by omega
      have hke := zq70 HD.out.2.2.2.2 HM.out.2.box
      have hT0 : TbS X0 Tb va vb (.slice da i dc) vnil vnil vnil vnil La Lb wr := ⟨zq19 HM.out.2.low (Nat.le_refl _) HD.out.2.2.2.2 (fun b hb => by rw [hb]; exact HM.out.2.lo), HM.out.2.lo, HD.out.1, HM.out.2.ra.keeps hke (by decide) (by decide), HM.out.2.rb.keeps hke (by decide) (by decide), HM.out.2.apart⟩
      have hy0 : ByT wr (.slice da i dc) l := ⟨by rw [HD.out.2.2.1]; exact Rd.of_own HD.out.2.1, HD.out.2.2.2.1⟩
      have hl10 : l.length = 10 := by rw [HD.out.2.2.1, hie]
      have HT0 := hidep (And.intro hT0 (And.intro hy0 hl10))
      clear hke hT0 hy0 hl10 hie hi hil HD
      have HC32 := hidep (fun (W : World) => HCE.out 32 W (by decide) (by decide))
      go_upto_region 33 with (go_at_call 22; refine (HC32.out _).mono ?_; rintro e wAc ⟨xc, rfl, hxc1, hxc2, hbA⟩; have hTA := HT0.out.1.below hbA; have hc7 := (tb7 hTA.box).2.2.2.1; have hf7 := zq1 hTA.box 3; have hlt := lt_of_block hTA.box)
      have hfd := hTA.field 3 [xc] (by simp) (by simp; omega) rfl
      obtain ⟨gc, hgc⟩ : ∃ g, g = wAc.heap.size := ⟨_, rfl⟩
      rw [<- hgc] at hfd ⊢
      refine zq9 (fun X => TbS X0 Tb va vb (.slice da i dc) (.slice (some ⟨gc, 0, none⟩) 1 1) (vnil) (vnil) (vnil) La Lb X /\ ByT X (.slice da i dc) l /\ ByT X (.slice (some ⟨gc, 0, none⟩) 1 1) [xc] /\ True) ⟨hfd.1, ((HT0.out.2.1).below hbA).keeps (T := fun t => t ≠ 29) hfd.2.2 (by decide), hfd.2.1, trivial⟩ ?_
      intro Y0 hY0
      have HY0 := hidep hY0
      clear hY0 hfd hgc hTA hc7 hf7 hlt hbA HC32
      have HC33 := hidep (fun (W : World) => HCE.out 33 W (by decide) (by decide))
      go_upto_region 34 with (go_at_call 22; refine (HC33.out _).mono ?_; rintro e wAn ⟨xn, rfl, hxn1, hxn2, hbA⟩; have hTA := HY0.out.1.below hbA; have hc7 := (tb7 hTA.box).2.2.2.2.1; have hf7 := zq1 hTA.box 4; have hlt := lt_of_block hTA.box)
      have hfd := hTA.field 4 [xn] (by simp) (by simp; omega) rfl
      obtain ⟨gn, hgn⟩ : ∃ g, g = wAn.heap.size := ⟨_, rfl⟩
      rw [<- hgn] at hfd ⊢
      refine zq9 (fun X => TbS X0 Tb va vb (.slice da i dc) (.slice (some ⟨gc, 0, none⟩) 1 1) (.slice (some ⟨gn, 0, none⟩) 1 1) (vnil) (vnil) La Lb X /\ ByT X (.slice da i dc) l /\ ByT X (.slice (some ⟨gc, 0, none⟩) 1 1) [xc] /\ ByT X (.slice (some ⟨gn, 0, none⟩) 1 1) [xn] /\ True) ⟨hfd.1, ((HY0.out.2.1).below hbA).keeps (T := fun t => t ≠ 29) hfd.2.2 (by decide), ((HY0.out.2.2.1).below hbA).keeps (T := fun t => t ≠ 29) hfd.2.2 (by decide), hfd.2.1, trivial⟩ ?_
      intro Y1 hY1
      have HY1 := hidep hY1
      clear hY1 hfd hgn hTA hc7 hf7 hlt hbA HC33
      have HC34 := hidep (fun (W : World) => HCE.out 34 W (by decide) (by decide))
      go_upto_region 35 with (go_at_call 22; refine (HC34.out _).mono ?_; rintro e wAe ⟨xe, rfl, hxe1, hxe2, hbA⟩; have hTA := HY1.out.1.below hbA; have hc7 := (tb7 hTA.box).2.2.2.2.2.1; have hf7 := zq1 hTA.box 5; have hlt := lt_of_block hTA.box)
      have hfd := hTA.field 5 [xe] (by simp) (by simp; omega) rfl
      obtain ⟨ge, hge⟩ : ∃ g, g = wAe.heap.size := ⟨_, rfl⟩
      rw [<- hge] at hfd ⊢
      refine zq9 (fun X => TbS X0 Tb va vb (.slice da i dc) (.slice (some ⟨gc, 0, none⟩) 1 1) (.slice (some ⟨gn, 0, none⟩) 1 1) (.slice (some ⟨ge, 0, none⟩) 1 1) (vnil) La Lb X /\ ByT X (.slice da i dc) l /\ ByT X (.slice (some ⟨gc, 0, none⟩) 1 1) [xc] /\ ByT X (.slice (some ⟨gn, 0, none⟩) 1 1) [xn] /\ ByT X (.slice (some ⟨ge, 0, none⟩) 1 1) [xe] /\ True) ⟨hfd.1, ((HY1.out.2.1).below hbA).keeps (T := fun t => t ≠ 29) hfd.2.2 (by decide), ((HY1.out.2.2.1).below hbA).keeps (T := fun t => t ≠ 29) hfd.2.2 (by decide), ((HY1.out.2.2.2.1).below hbA).keeps (T := fun t => t ≠ 29) hfd.2.2 (by decide), hfd.2.1, trivial⟩ ?_
      intro Y2 hY2
      have HY2 := hidep hY2
      clear hY2 hfd hge hTA hc7 hf7 hlt hbA HC34
      have HC35 := hidep (fun (W : World) => HCE.out 35 W (by decide) (by decide))
      go_upto_region 36 with (go_at_call 22; refine (HC35.out _).mono ?_; rintro e wAs ⟨xs, rfl, hxs1, hxs2, hbA⟩; have hTA := HY2.out.1.below hbA; have hc7 := (tb7 hTA.box).2.2.2.2.2.2; have hf7 := zq1 hTA.box 6; have hlt := lt_of_block hTA.box)
      have hfd := hTA.field 6 [xs] (by simp) (by simp; omega) rfl
      obtain ⟨gs, hgs⟩ : ∃ g, g = wAs.heap.size := ⟨_, rfl⟩
      rw [<- hgs] at hfd ⊢
      refine zq9 (fun X => TbS X0 Tb va vb (.slice da i dc) (.slice (some ⟨gc, 0, none⟩) 1 1) (.slice (some ⟨gn, 0, none⟩) 1 1) (.slice (some ⟨ge, 0, none⟩) 1 1) (.slice (some ⟨gs, 0, none⟩) 1 1) La Lb X /\ ByT X (.slice da i dc) l /\ ByT X (.slice (some ⟨gc, 0, none⟩) 1 1) [xc] /\ ByT X (.slice (some ⟨gn, 0, none⟩) 1 1) [xn] /\ ByT X (.slice (some ⟨ge, 0, none⟩) 1 1) [xe] /\ ByT X (.slice (some ⟨gs, 0, none⟩) 1 1) [xs] /\ True) ⟨hfd.1, ((HY2.out.2.1).below hbA).keeps (T := fun t => t ≠ 29) hfd.2.2 (by decide), ((HY2.out.2.2.1).below hbA).keeps (T := fun t => t ≠ 29) hfd.2.2 (by decide), ((HY2.out.2.2.2.1).below hbA).keeps (T := fun t => t ≠ 29) hfd.2.2 (by decide), ((HY2.out.2.2.2.2.1).below hbA).keeps (T := fun t => t ≠ 29) hfd.2.2 (by decide), hfd.2.1, trivial⟩ ?_
      intro Y3 hY3
      have HY3 := hidep hY3
      clear hY3 hfd hgs hTA hc7 hf7 hlt hbA HC35
      have hq29 := zq3f (n := n) (d := 29) (by decide) h1 h2
      have hwd29 : IntKind.i64.wrap (n.tdiv 29) = n.tdiv 29 := IntWalk.i64_in _ (by omega)
      obtain ⟨a5, ha5⟩ : ∃ x, x = zqd (n.tdiv 29) 5 := ⟨_, rfl⟩
      have HA5 := hidep (fun (W : World) => zq14 (n.tdiv 29) 5 W (by omega) (by omega))
      rw [<- ha5] at HA5
      clear ha5
      go_upto_if 174 with (go_at_call 9; refine (HA5.out _).mono ?_; rintro e w5 ⟨rfl, rfl⟩)
      clear hwd29 hq29 HA5
      refine zq17 (MtZ X0 n Rb Tb va vb (.slice da i dc) (.slice (some ⟨gc, 0, none⟩) 1 1) (.slice (some ⟨gn, 0, none⟩) 1 1) (.slice (some ⟨ge, 0, none⟩) 1 1) La Lb l [xc] [xn] [xe]) ?r37 ?_
      case r37 =>
        intro K' hMK
        by_cases ha0 : a5 = 0
        · have hae : (a5 == 0) = true := by simp [ha0]
          have HC35 := hidep (fun (W : World) => HCE.out 35 W (by decide) (by decide))
          have HC34 := hidep (fun (W : World) => HCE.out 34 W (by decide) (by decide))
          clear ha0
          go_wp2_with (go_at_call 22; first
            | ((with_reducible refine (HC35.out _).mono ?_); rintro e wA ⟨c, rfl, hc1, hc2, hbA⟩; have hTA := HY3.out.1.below hbA)
            | ((with_reducible refine (HC34.out _).mono ?_); rintro e wB ⟨d, rfl, hd1, hd2, hbB⟩; have hTB := hTA.below hbB; have hc7 := (tb7 hTB.box).2.2.2.2.2.2; have hf7 := zq1 hTB.box 6; have hlt := lt_of_block hTB.box))
          have hfd := hTB.field 6 [c, d] (by simp) (by simp; omega) rfl
          have hkk := fun {v : Value} {l : List Int} (h : ByT Y3 v l) => ((h.below hbA).below hbB).keeps (T := fun t => t ≠ 29) hfd.2.2 (by decide)
          first
            | exact ⟨_, [c, d], zq8c hc1 hc2 hd1 hd2, hfd.1, hkk HY3.out.2.1, hkk HY3.out.2.2.1, hkk HY3.out.2.2.2.1, hkk HY3.out.2.2.2.2.1, hfd.2.1, by kernel_rfl, rfl, rfl, rfl, rfl, trivial⟩
            | exact hMK _ _ ⟨_, [c, d], zq8c hc1 hc2 hd1 hd2, hfd.1, hkk HY3.out.2.1, hkk HY3.out.2.2.1, hkk HY3.out.2.2.2.1, hkk HY3.out.2.2.2.2.1, hfd.2.1, by kernel_rfl, rfl, rfl, rfl, rfl, trivial⟩
        · have hae : (a5 == 0) = false := by simp [ha0]
          clear ha0
          have hcs := zq79 hxs1 hxs2
          go_wp2
          first
            | exact ⟨_, [xs], hcs, HY3.out.1, HY3.out.2.1, HY3.out.2.2.1, HY3.out.2.2.2.1, HY3.out.2.2.2.2.1, HY3.out.2.2.2.2.2.1, by kernel_rfl, rfl, rfl, rfl, rfl, trivial⟩
            | exact hMK _ _ ⟨_, [xs], hcs, HY3.out.1, HY3.out.2.1, HY3.out.2.2.1, HY3.out.2.2.2.1, HY3.out.2.2.2.2.1, HY3.out.2.2.2.2.2.1, by kernel_rfl, rfl, rfl, rfl, rfl, trivial⟩
      rintro ⟨tm, ds⟩ Y5 ⟨sv, ls, hls, hT5, hyd, hyc, hyn, hye, hys, hts, hds, e0, e2, e3, -⟩
      dsimp only at hts hds e0 e2 e3
      subst hds
      rw [zq53 tm _ hts, e0, e2, e3]
      clear e0 e2 e3 hts HY3
      (try apply_assumption)
      have HY5 := hidep (And.intro hT5 (And.intro hyd (And.intro hyc (And.intro hyn (And.intro hye hys)))))
      have HCS := hidep (And.intro hls (And.intro (zq79 hxc1 hxc2) (And.intro (zq79 hxn1 hxn2) (zq79 hxe1 hxe2))))
      have HDG := hidep (show zqc l 10 10 = true from cellsB_of HT0.out.2.1.2 (by rw [HT0.out.2.2]; exact Nat.le_refl _) (by rw [HT0.out.2.2]; exact Nat.le_refl _))
      obtain ⟨f0, f1, f2, f3, f4, f5, f6⟩ := tb7 hT5.box
      obtain ⟨xsA, hxA⟩ := hT5.ra.own
      obtain ⟨aa, ac, rfl, -, -⟩ := (Rd.of_own hxA).form
      obtain ⟨xsB, hxB⟩ := hT5.rb.own
      obtain ⟨ba, bc, rfl, -, -⟩ := (Rd.of_own hxB).form
      obtain ⟨sa, sc, rfl, -, -⟩ := hys.form
      have hrb := zq0 hT5.low HX0.out.2.1
      obtain ⟨r0, r1, r2, r3, r4, r5, r6⟩ := tb7 hrb
      have z0 : Y5.frozen? ⟨Rb, 0, none⟩ = false := zq1 hrb 0
      have z1 : Y5.frozen? ⟨Rb, 1, none⟩ = false := zq1 hrb 1
      have z2 : Y5.frozen? ⟨Rb, 2, none⟩ = false := zq1 hrb 2
      have z3 : Y5.frozen? ⟨Rb, 3, none⟩ = false := zq1 hrb 3
      have z4 : Y5.frozen? ⟨Rb, 4, none⟩ = false := zq1 hrb 4
      have z5 : Y5.frozen? ⟨Rb, 5, none⟩ = false := zq1 hrb 5
      have z6 : Y5.frozen? ⟨Rb, 6, none⟩ = false := zq1 hrb 6
      have HRB := hidep hrb
      clear hxA hxB hrb hT5 hyd hyc hyn hye hys hls
      go_wp2
      have hset := zq7d HRB.out (.slice aa La.length ac) (.slice ba Lb.length bc) (.slice da i dc) (.slice (some ⟨gc, 0, none⟩) 1 1) (.slice (some ⟨gn, 0, none⟩) 1 1) (.slice (some ⟨ge, 0, none⟩) 1 1) (.slice sa ls.length sc)
      have htu := zq65 Y5 Rb (.slice aa La.length ac) (.slice ba Lb.length bc) (.slice da i dc) (.slice (some ⟨gc, 0, none⟩) 1 1) (.slice (some ⟨gn, 0, none⟩) 1 1) (.slice (some ⟨ge, 0, none⟩) 1 1) (.slice sa ls.length sc)
      have hke := zq70 htu HRB.out
      have hlow : Below w.heap.size w Y5 := HX0.out.1.trans (HY5.out.1.low.mono HX0.out.1.size)
      unfold set7 at hset htu hke
      refine bodyPost_ret (zq44 rfl _ _ _ rfl (run_loadVar_row (P := Tryz.prog) _ Rb 29 29 _ _ _ hset zq39.1.choose_spec rfl zq39.2)) rfl ?_
      exact ⟨⟨_, _, _, _, _, _, _⟩, ⟨La, Lb, l, [xc], [xn], [xe], ls⟩, rfl, ⟨(HY5.out.1.ra.keeps hke (by decide) (by decide)).at, (HY5.out.1.rb.keeps hke (by decide) (by decide)).at, (HY5.out.2.1.keeps hke (by decide)).at, (HY5.out.2.2.1.keeps hke (by decide)).at, (HY5.out.2.2.2.1.keeps hke (by decide)).at, (HY5.out.2.2.2.2.1.keeps hke (by decide)).at, (HY5.out.2.2.2.2.2.keeps hke (by decide)).at⟩, ⟨HM.out.1.1, HM.out.1.2, HDG.out, HCS.out.2.1, HCS.out.2.2.1, HCS.out.2.2.2, HCS.out.1⟩, zq19 hlow (Nat.le_refl _) htu (fun b hb => by rw [hb, HX0.out.2.2]; exact Nat.le_refl _)⟩
end Go.Proofs.YtcfjepcflanjbaaGreat
