/- Contract: the code's Valid of tables (its first half: sizes, indicators, rules). -/
import Derived.Test.YtcfjepcflanjbaaGreatBr02
import Derived.Test.YtcfjepcflanjbaaGreatBr06
import Derived.Test.YtcfjepcflanjbaaGreatBr17
namespace Go.Proofs.YtcfjepcflanjbaaGreat
open Go.RowKit Go.Lab Go.Shelf Go.Maps
set_option maxRecDepth 100000
theorem zq5d (t : Array Value) (ds : List Deferred) (h : t.size = 123) : ({ tmps := t, defers := ds } : Act) = { tmps := #[slot t 0, slot t 1, slot t 2, slot t 3, slot t 4, slot t 5, slot t 6, slot t 7, slot t 8, slot t 9, slot t 10, slot t 11, slot t 12, slot t 13, slot t 14, slot t 15, slot t 16, slot t 17, slot t 18, slot t 19, slot t 20, slot t 21, slot t 22, slot t 23, slot t 24, slot t 25, slot t 26, slot t 27, slot t 28, slot t 29, slot t 30, slot t 31, slot t 32, slot t 33, slot t 34, slot t 35, slot t 36, slot t 37, slot t 38, slot t 39, slot t 40, slot t 41, slot t 42, slot t 43, slot t 44, slot t 45, slot t 46, slot t 47, slot t 48, slot t 49, slot t 50, slot t 51, slot t 52, slot t 53, slot t 54, slot t 55, slot t 56, slot t 57, slot t 58, slot t 59, slot t 60, slot t 61, slot t 62, slot t 63, slot t 64, slot t 65, slot t 66, slot t 67, slot t 68, slot t 69, slot t 70, slot t 71, slot t 72, slot t 73, slot t 74, slot t 75, slot t 76, slot t 77, slot t 78, slot t 79, slot t 80, slot t 81, slot t 82, slot t 83, slot t 84, slot t 85, slot t 86, slot t 87, slot t 88, slot t 89, slot t 90, slot t 91, slot t 92, slot t 93, slot t 94, slot t 95, slot t 96, slot t 97, slot t 98, slot t 99, slot t 100, slot t 101, slot t 102, slot t 103, slot t 104, slot t 105, slot t 106, slot t 107, slot t 108, slot t 109, slot t 110, slot t 111, slot t 112, slot t 113, slot t 114, slot t 115, slot t 116, slot t 117, slot t 118, slot t 119, slot t 120, slot t 121, slot t 122], defers := ds } :=
  (congrArg (fun x => ({ tmps := x, defers := ds } : Act)) (zq1e h)).trans (by kernel_rfl)
theorem zqda (x y : Value) (k : Nat) (hk : k < 2) (W : World) : (Instr.index 27 (.agg #[x, y]) (.int .i64 (k : Nat))).run Tryz.prog W = .ok (.agg #[if k = 0 then x else y]) W := by
  have hu : Tryz.prog.underlying 27 = some (.array 2 26) := by kernel_rfl
  rcases (by omega : k = 0 \/ k = 1) with rfl | rfl
  · unfold Instr.index
    simp only [asIntOf, Sem.run_bind, Sem.run_pure, Result.andThen_ok, run_underlying hu W]
    simp [part, Sem.run_bind]
  · unfold Instr.index
    simp only [asIntOf, Sem.run_bind, Sem.run_pure, Result.andThen_ok, run_underlying hu W]
    simp [part, Sem.run_bind]
def TabV.at (V : TabV) (k : Nat) : Value := if k = 0 then V.a else V.b
theorem zqe2 {w0 : World} {V : TabV} {T : TabZ} (hT : TabIn w0 V T) (k : Nat) : ∃ a c, V.at k = .slice a (T.at k).length c /\ RulesAt w0 (.slice a (T.at k).length c) (T.at k) /\ (T.at k).length <= c /\ c <= maxLen := by
  unfold TabV.at TabZ.at
  split
  · obtain ⟨a, c, ha, h1, h2⟩ := hT.r0.form
    exact ⟨a, c, ha, by rw [<- ha]; exact hT.r0, h1, h2⟩
  · obtain ⟨a, c, ha, h1, h2⟩ := hT.r1.form
    exact ⟨a, c, ha, by rw [<- ha]; exact hT.r1, h1, h2⟩
def TabV.inds (V : TabV) : List Value := [V.c, V.n, V.e, V.s]
def TabZ.inds (T : TabZ) : List (List Int) := [T.cp, T.nm, T.en, T.sw]
theorem inds_at {w0 : World} {V : TabV} {T : TabZ} (hT : TabIn w0 V T) (k : Nat) (hk : k < 4) : ∃ a c l, V.inds[k]? = some (.slice a l.length c) /\ T.inds[k]? = some l /\ BysAt w0 (.slice a l.length c) l := by
  have key : ∀ (v : Value) (l : List Int), BysAt w0 v l -> ∃ a c, v = .slice a l.length c /\ BysAt w0 (.slice a l.length c) l := fun v l h => by
    obtain ⟨a, c, ha, _, _⟩ := h.1.form
    exact ⟨a, c, ha, by rw [<- ha]; exact h⟩
  rcases (by omega : k = 0 \/ k = 1 \/ k = 2 \/ k = 3) with rfl | rfl | rfl | rfl
  · obtain ⟨a, c, ha, h⟩ := key _ _ hT.cp
    exact ⟨a, c, T.cp, by simp [TabV.inds, ha], rfl, h⟩
  · obtain ⟨a, c, ha, h⟩ := key _ _ hT.nm
    exact ⟨a, c, T.nm, by simp [TabV.inds, ha], rfl, h⟩
  · obtain ⟨a, c, ha, h⟩ := key _ _ hT.en
    exact ⟨a, c, T.en, by simp [TabV.inds, ha], rfl, h⟩
  · obtain ⟨a, c, ha, h⟩ := key _ _ hT.sw
    exact ⟨a, c, T.sw, by simp [TabV.inds, ha], rfl, h⟩
def GB (T : TabZ) (w0 : World) (V : TabV) (Bx Bl : Nat) (gv kv : Value) (wr : World) : Prop := ∃ k : Nat, k <= 4 /\ kv = .int .i64 (k : Nat) /\ gv = .bool (zqc T.dg 10 10 && (T.inds.take k).all (fun l => zqc l 1 4)) /\ TbX w0 V Bx wr /\ wr.heap[Bl]? = some (.cells V.inds.toArray 23)
def GC (T : TabZ) (g0 : Bool) (w0 : World) (V : TabV) (Bx : Nat) (gv kv : Value) (wr : World) : Prop := ∃ k : Nat, k <= 2 /\ kv = .int .i64 (k : Nat) /\ gv = .bool (g0 && ((List.range k).all fun j => (T.at j).all zqf)) /\ TbX w0 V Bx wr
structure MpIn (T : TabZ) (w0 : World) (V : TabV) (Bx B10 : Nat) (m0 m1 : Value) (k : Nat) (X : World) : Prop where
  tab : TbX w0 V Bx X
  box : X.heap[B10]? = some (.cells #[m0, m1] 113)
  low : w0.heap.size <= B10 /\ Bx < B10
  one : 0 < k -> ∃ b n M, m0 = .map (some b) /\ B10 < b /\ nmMap X b n M /\ n <= 100 /\ NmView M T.l0
  two : 1 < k -> ∃ b n M, m1 = .map (some b) /\ B10 < b /\ nmMap X b n M /\ n <= 100 /\ NmView M T.l1
  tw : ∀ j, j < k -> zq22 (T.at j) = false
def MD (T : TabZ) (w0 : World) (V : TabV) (Bx B10 : Nat) (kv : Value) (X : World) : Prop := ∃ (k : Nat) (m0 m1 : Value), k <= 2 /\ kv = .int .i64 (k : Nat) /\ MpIn T w0 V Bx B10 m0 m1 k X
theorem zq31 {W : World} {b : Nat} {cur : Array Value} {t : TypeId} (h : W.heap[b]? = some (.cells cur t)) (k : Nat) : W.frozen? ⟨b, k, none⟩ = false := by simp [World.frozen?, h]
theorem heap_setT {W : World} {b : Nat} {cur : Array Value} {t : TypeId} (h : W.heap[b]? = some (.cells cur t)) (o : Nat) (v : Value) : (W.setCell ⟨b, o, none⟩ v).heap[b]? = some (.cells (cur.setIfInBounds o v) t) :=
  heap_setCell_same W b o cur t v h
theorem nmMap.below {w w' : World} {b n : Nat} {M : DataW Unit} (h : nmMap w b n M) (hb : Below w.heap.size w w') : nmMap w' b n M :=
  World.ownsMap.kept h (row := none) ⟨hb.os, hb.tape, hb.output, hb.size, fun k hk _ => hb.block k hk⟩ (by simp)
theorem MpIn.below {T : TabZ} {w0 X X' : World} {V : TabV} {Bx B10 k : Nat} {m0 m1 : Value} (h : MpIn T w0 V Bx B10 m0 m1 k X) (hb : Below X.heap.size X X') : MpIn T w0 V Bx B10 m0 m1 k X' :=
  ⟨h.tab.below hb, zq0 hb h.box, h.low, fun hk => by
    obtain ⟨b, n, M, h1, h2, h3, h4, h5⟩ := h.one hk
    exact ⟨b, n, M, h1, h2, h3.below hb, h4, h5⟩, fun hk => by
    obtain ⟨b, n, M, h1, h2, h3, h4, h5⟩ := h.two hk
    exact ⟨b, n, M, h1, h2, h3.below hb, h4, h5⟩, h.tw⟩
structure InD (T : TabZ) (w0 : World) (V : TabV) (Bx B10 k mb : Nat) (mo : Value) (L : List RuleZ) (i : Nat) (X : World) : Prop where
  tab : TbX w0 V Bx X
  box : X.heap[B10]? = some (.cells (if k = 0 then #[.map (some mb), mo] else #[mo, .map (some mb)]) 113)
  low : w0.heap.size <= B10 /\ Bx < B10 /\ B10 < mb
  cur : ∃ n M, nmMap X mb n M /\ n <= i /\ NmView M (L.take i)
  old : k = 1 -> ∃ b n M, mo = .map (some b) /\ B10 < b /\ b < mb /\ nmMap X b n M /\ n <= 100 /\ NmView M T.l0
  tw : ∀ j, j < k -> zq22 (T.at j) = false
  nt : ∀ i', i' < i -> NoTw L i'
theorem ind_start {T : TabZ} {w0 wr : World} {V : TabV} {Bx B10 k : Nat} {m0 m1 : Value} {L : List RuleZ} (h : MpIn T w0 V Bx B10 m0 m1 k wr) (hk : k < 2) (A : Obj) :
    InD T w0 V Bx B10 k (wr.heap.size + 1) (if k = 0 then m1 else m0) L 0 (((wr.setCell ⟨B10, k, none⟩ (.map (some (wr.heap.size + 1)))).alloc A).alloc (.map #[] 0)) := by
  obtain ⟨W1, hW1⟩ : ∃ W1, W1 = wr.setCell ⟨B10, k, none⟩ (.map (some (wr.heap.size + 1))) := ⟨_, rfl⟩
  have hz1 : W1.heap.size = wr.heap.size := by rw [hW1]; simp [World.setCell]
  have hB := lt_of_block h.box
  have hsame : ∀ c, c ≠ B10 -> W1.heap[c]? = wr.heap[c]? := fun c hc => by rw [hW1]; exact Below.heap_setCell _ _ _ c (fun e => hc e)
  have hbel : Below w0.heap.size w0 W1 := by rw [hW1]; exact h.tab.1.setCell h.low.1 _
  have hbox : W1.heap[B10]? = some (.cells (if k = 0 then #[.map (some (wr.heap.size + 1)), m1] else #[m0, .map (some (wr.heap.size + 1))]) 113) := by
    rw [hW1]
    rcases (by omega : k = 0 \/ k = 1) with rfl | rfl
    · exact heap_setT h.box 0 _
    · exact heap_setT h.box 1 _
  have hold : k = 1 -> ∃ b n M, m0 = .map (some b) /\ B10 < b /\ b < wr.heap.size /\ nmMap W1 b n M /\ n <= 100 /\ NmView M T.l0 := fun hk1 => by
    obtain ⟨b, n, M, e, hb1, hm, hn, hv⟩ := h.one (by omega)
    have hlt := hm.lt
    refine ⟨b, n, M, e, hb1, hlt, ?_, hn, hv⟩
    rw [hW1]
    exact World.ownsMap.setCell hm (by show b ≠ B10; omega) _
  rw [<- hW1]
  clear hW1
  have hbA := (Below.refl W1.heap.size W1).alloc (Nat.le_refl _) A
  have hbM := (Below.refl (W1.alloc A).heap.size (W1.alloc A)).alloc (Nat.le_refl _) (.map #[] 0)
  have hsz : (W1.alloc A).heap.size = wr.heap.size + 1 := by simp [hz1]
  have hbb := hbA.trans (hbM.mono (by rw [hsz, hz1]; omega))
  refine ⟨⟨hbel.trans (hbb.mono hbel.size), zq0 hbb ((hsame Bx (by have := h.low.2; omega)).trans h.tab.2)⟩, ?_, ⟨h.low.1, h.low.2, by omega⟩, ?_, ?_, h.tw, fun i' hi => by omega⟩
  · have h2 := zq0 hbb hbox
    rcases (by omega : k = 0 \/ k = 1) with rfl | rfl
    · exact h2
    · exact h2
  · have hmk := World.ownsMap_made (H := Unit) (W1.alloc A) Tryz.prog 115 (plainElem Tryz.prog 4)
    rw [hsz] at hmk
    exact ⟨0, .map [], hmk, Nat.le_refl _, fun s wh z _ => by rfl⟩
  · intro hk1
    obtain ⟨b, n, M, e, hb1, hlt, hm, hn, hv⟩ := hold hk1
    refine ⟨b, n, M, ?_, hb1, by omega, hm.below hbb, hn, hv⟩
    rw [if_neg (by omega)]
    exact e
theorem InD.below {T : TabZ} {w0 X X' : World} {V : TabV} {Bx B10 k mb i : Nat} {mo : Value} {L : List RuleZ} (h : InD T w0 V Bx B10 k mb mo L i X) (hb : Below X.heap.size X X') : InD T w0 V Bx B10 k mb mo L i X' :=
  ⟨h.tab.below hb, zq0 hb h.box, h.low, by
    obtain ⟨n, M, h1, h2, h3⟩ := h.cur
    exact ⟨n, M, h1.below hb, h2, h3⟩, fun hk => by
    obtain ⟨b, n, M, h1, h2, h3, h4, h5, h6⟩ := h.old hk
    exact ⟨b, n, M, h1, h2, h3, h4.below hb, h5, h6⟩, h.tw, h.nt⟩
theorem InD.put {T : TabZ} {w0 X X' : World} {V : TabV} {Bx B10 k mb i n : Nat} {mo : Value} {L : List RuleZ} {M : DataW Unit} (h : InD T w0 V Bx B10 k mb mo L i X) (hi : i < L.length) {r : RuleZ} (hr : L[i] = r) (hg : X.grownBy X' (some mb))
    (ho : nmMap X' mb (n + 1) (M.put (kN r.text r.wh) (.lit (.bool true)))) (hv : NmView M (L.take i)) (hm : IsMap M) (hn : n <= i) (hno : NmOk r.text r.wh) (hnt : NoTw L i) : InD T w0 V Bx B10 k mb mo L (i + 1) X' := by
  have hlow := h.low
  have hbx := lt_of_block h.tab.2
  have hb10 := lt_of_block h.box
  refine ⟨⟨⟨hg.os.trans h.tab.1.os, hg.tape.trans h.tab.1.tape, hg.output.trans h.tab.1.output, Nat.le_trans h.tab.1.size hg.size, fun b hb => (hg.block b (Nat.lt_of_lt_of_le hb h.tab.1.size) (fun e => by injection e with e; omega)).trans (h.tab.1.block b hb)⟩, (hg.block Bx hbx (fun e => by injection e with e; omega)).trans h.tab.2⟩,
    (hg.block B10 hb10 (fun e => by injection e with e; omega)).trans h.box, hlow, ⟨n + 1, _, ho, by omega, ?_⟩, fun hk => ?_, h.tw, fun i' hi' => ?_⟩
  · have := hv.put hm r hno
    rw [List.take_add_one, List.getElem?_eq_getElem hi, hr]
    exact this
  · obtain ⟨b, n', M', h1, h2, h3, h4, h5, h6⟩ := h.old hk
    exact ⟨b, n', M', h1, h2, h3, World.ownsMap.kept h4 hg (by intro e; injection e with e; omega), h5, h6⟩
  · rcases (by omega : i' < i \/ i' = i) with h2 | rfl
    · exact h.nt i' h2
    · exact hnt
theorem InD.done {T : TabZ} {w0 X : World} {V : TabV} {Bx B10 k mb i : Nat} {mo : Value} {L : List RuleZ} (h : InD T w0 V Bx B10 k mb mo L i X) (hk : k < 2) (hL : L = T.at k) (hi : i = L.length) (hn : L.length <= 96) : ∃ m0 m1, MpIn T w0 V Bx B10 m0 m1 (k + 1) X := by
  have htw : zq22 L = false := zq9c (fun i' hi' => h.nt i' (by omega))
  obtain ⟨n, M, hm, hn2, hv⟩ := h.cur
  rw [hi, List.take_length] at hv
  have hn3 : n <= 100 := by omega
  have hall : ∀ j, j < k + 1 -> zq22 (T.at j) = false := fun j hj => by
    rcases (by omega : j < k \/ j = k) with h2 | rfl
    · exact h.tw j h2
    · rw [<- hL]; exact htw
  rcases (by omega : k = 0 \/ k = 1) with rfl | rfl
  · have hL : L = T.l0 := hL
    rw [hL] at hv
    exact ⟨_, _, h.tab, h.box, ⟨h.low.1, h.low.2.1⟩, fun _ => ⟨mb, n, M, rfl, h.low.2.2, hm, hn3, hv⟩, fun h2 => by omega, hall⟩
  · have hL : L = T.l1 := hL
    rw [hL] at hv
    obtain ⟨b, n', M', h1, h2, h3, h4, h5, h6⟩ := h.old rfl
    exact ⟨_, _, h.tab, h.box, ⟨h.low.1, h.low.2.1⟩, fun _ => ⟨b, n', M', h1, h2, h4, h5, h6⟩, fun _ => ⟨mb, n, M, rfl, h.low.2.2, hm, hn3, hv⟩, hall⟩
def IDI (T : TabZ) (w0 : World) (V : TabV) (Bx B10 k mb : Nat) (mo : Value) (L : List RuleZ) (iv : Value) (X : World) : Prop := ∃ i : Nat, i <= L.length /\ iv = .int .i64 (i : Nat) /\ InD T w0 V Bx B10 k mb mo L i X
def EI (T : TabZ) (w0 : World) (V : TabV) (Bx B10 b0 b1 : Nat) (cv : Value) (X : World) : Prop := ∃ m : Nat, m <= 26 /\ cv = .int .u8 (97 + (m : Nat)) /\ (∀ m', m' < m -> (ownB T.l0 (97 + (m' : Int)) && ownB T.l1 (97 + (m' : Int))) = true) /\ MpIn T w0 V Bx B10 (.map (some b0)) (.map (some b1)) 2 X
theorem encode_asciiT {c : Int} (h1 : 32 <= c) (h2 : c <= 126) : byts (Utf8.encode c) = [c] := by
  obtain ⟨n, rfl⟩ : ∃ n : Nat, c = (n : Int) := ⟨c.toNat, by omega⟩
  have hv : Utf8.valid (n : Int) = true := by rw [validRune_eq]; unfold validRune; exact decide_eq_true (Or.inl (by omega))
  unfold Utf8.encode
  simp only [hv, if_true]
  rw [if_pos (by omega)]
  simp [byts]
  omega
def VG7 (Bx : Nat) (g : Bool) (w0 : World) (a : Act) (W : World) : Prop := a.tmps.size = 123 /\ a.defers = [] /\ slot a.tmps 1 = .pointer (some ⟨Bx, 0, none⟩) /\ slot a.tmps 5 = .bool g /\ W = w0
set_option maxHeartbeats 4000000 in
theorem zqb6 (V : TabV) (T : TabZ) (w : World) (hT : TabIn w V T) (hok : TabOk T) :
    Calls Tryz.prog 28 #[V.v] w fun e w' => e = .returned (.int .i64 (zq8 T)) /\ Below w.heap.size w w' := by
  have HT := hidep hT
  have HOK := hidep hok
  clear hT hok
  go_enter Tryz.func28, Tryz.ntmps28
  go_upto_region 1 with (fail)
  obtain ⟨Bx, hBx⟩ : ∃ B, B = w.heap.size := ⟨_, rfl⟩
  refine zq9 (fun X => TbX w V Bx X) ⟨(Below.refl _ _).alloc (Nat.le_refl _) _, by rw [hBx]; exact heap_alloc_new _ _⟩ ?_
  rw [<- hBx]
  clear hBx
  rintro X1 hX1
  have c0 : X1.cell? ⟨Bx, 0, none⟩ = some V.a := by simp [World.cell?, hX1.2]
  have c1 : X1.cell? ⟨Bx, 1, none⟩ = some V.b := by simp [World.cell?, hX1.2]
  have HG := hidep (show VL1 T w V Bx (.int .i64 0) X1 from ⟨0, by omega, rfl, fun j hj => by omega, hX1⟩)
  clear hX1
  go_upto_region 2 with (fail)
  clear c0 c1
  refine wp_loop (LoopI 123 (fun tm ds wr => (slot tm 1) = .pointer (some ⟨Bx, 0, none⟩) /\ (slot tm 19) = .agg #[V.a, V.b] /\ ds = [] /\ VL1 T w V Bx (slot tm 20) wr)) (fun a' wr => 2 - natI (a'.tmps.getD 20 undef)) ?lAStart ?lARound
  case' lAStart => refine LoopI.mk rfl ?_
  case' lARound => (rintro ⟨t, ds⟩ wr ⟨hts, hrel⟩; dsimp only at hts hrel; rw [zq5d t ds hts])
  case lAStart => exact ⟨rfl, rfl, rfl, HG.out⟩
  clear HG
  obtain ⟨e1, e19, hds, k, hk2, e20, hlen, hX⟩ := hrel
  subst hds
  rw [e1, e19, e20]
  clear e1 e19 e20 hts
  by_cases hk : k < 2
  · have hki : (k : Int) < 2 := by omega
    have hk0 : (0 : Int) <= (k : Int) := by omega
    obtain ⟨ra, rc, hva, hrows, hrl, hrc⟩ := zqe2 HT.out k
    have hidx := fun W => zqda V.a V.b k hk W
    rw [show (if k = 0 then V.a else V.b) = V.at k from rfl, hva] at hidx
    have hrn := (HOK.out.at k).2
    obtain ⟨rn, hrnd⟩ : ∃ rn, rn = (T.at k).length := ⟨_, rfl⟩
    rw [<- hrnd] at hidx hrl hrn
    unfold maxLen at hrc
    have HX := hidep hX
    by_cases h96 : rn <= 96
    · have g1 : ¬ (rn : Int) > 96 := by omega
      have HL := hidep (show ∀ j, j < k + 1 -> (T.at j).length <= 96 from fun j hj => by
        rcases (by omega : j < k \/ j = k) with h | rfl
        · exact hlen j h
        · rw [<- hrnd]; exact h96)
      clear hlen hrnd hrows h96 hva hX
      go_wp2
      refine ⟨LoopI.mk rfl ⟨rfl, rfl, rfl, k + 1, by omega, by show Value.int _ _ = _; go_num, HL.out, HX.out.below ((Below.refl _ _).alloc (Nat.le_refl _) _)⟩, ?_⟩
      show 2 - _ < 2 - _
      simp [natI]; omega
    · have g1 : (rn : Int) > 96 := by omega
      have HE := hidep (show zq8 T = 4 from by
        unfold zq8
        rw [if_pos]
        rcases (by omega : k = 0 \/ k = 1) with rfl | rfl
        · left
          have : rn = T.l0.length := hrnd
          omega
        · right
          have : rn = T.l1.length := hrnd
          omega)
      clear hlen hrnd hrows h96 hva hX
      go_wp2
      go_ret
      exact ⟨by rw [HE.out]; rfl, (HX.out.below ((Below.refl _ _).alloc (Nat.le_refl _) _)).1⟩
  · have hki : ¬ (k : Int) < 2 := by omega
    have hL96 : T.l0.length <= 96 /\ T.l1.length <= 96 := ⟨hlen 0 (by omega), hlen 1 (by omega)⟩
    have HL96 := hidep (show ∀ k, (T.at k).length <= 96 from fun k => by unfold TabZ.at; split; exact hL96.1; exact hL96.2)
    have HV := hidep (show zq8 T = if (T.l0.all zqf && (T.l1.all zqf && (zqc T.dg 10 10 && (zqc T.cp 1 4 && (zqc T.nm 1 4 && (zqc T.en 1 4 && zqc T.sw 1 4)))))) = false then 1
      else if (zq22 T.l0 || zq22 T.l1) = true then 7
      else if (zq23.all (ownB T.l0) && zq23.all (ownB T.l1)) = false then 6
      else 0 from by
      unfold zq8
      rw [if_neg (by omega)])
    have hTX := HT.out.below hX.1
    obtain ⟨da, dc, hd, hd1, hd2⟩ := hTX.dg.1.form
    have HCD := hidep (cellsT_any V.d T.dg wr hTX.dg)
    rw [hd] at HCD
    obtain ⟨ua3, uc3, hu3, _, _⟩ := hTX.cp.1.form
    obtain ⟨ua4, uc4, hu4, _, _⟩ := hTX.nm.1.form
    obtain ⟨ua5, uc5, hu5, _, _⟩ := hTX.en.1.form
    obtain ⟨ua6, uc6, hu6, _, _⟩ := hTX.sw.1.form
    have HIN := hidep (show V.inds.toArray = #[.slice ua3 T.cp.length uc3, .slice ua4 T.nm.length uc4, .slice ua5 T.en.length uc5, .slice ua6 T.sw.length uc6] from by unfold TabV.inds; rw [hu3, hu4, hu5, hu6])
    have cb := hX.2
    rw [hu3, hu4, hu5, hu6] at cb
    have c2 : wr.cell? ⟨Bx, 2, none⟩ = some (.slice da T.dg.length dc) := by simp [World.cell?, cb, hd]
    have c3 : wr.cell? ⟨Bx, 3, none⟩ = some (.slice ua3 T.cp.length uc3) := by simp [World.cell?, cb]
    have c4 : wr.cell? ⟨Bx, 4, none⟩ = some (.slice ua4 T.nm.length uc4) := by simp [World.cell?, cb]
    have c5 : wr.cell? ⟨Bx, 5, none⟩ = some (.slice ua5 T.en.length uc5) := by simp [World.cell?, cb]
    have c6 : wr.cell? ⟨Bx, 6, none⟩ = some (.slice ua6 T.sw.length uc6) := by simp [World.cell?, cb]
    obtain ⟨g0, hg0⟩ : ∃ g, g = zqc T.dg 10 10 := ⟨_, rfl⟩
    obtain ⟨ca, hca⟩ : ∃ c, c = T.dg.all cellB := ⟨_, rfl⟩
    rw [<- hca] at HCD
    obtain ⟨dn, hdn⟩ : ∃ n, n = T.dg.length := ⟨_, rfl⟩
    rw [<- hdn] at HCD c2
    have hg1 : g0 = (ca && (decide (10 <= dn) && decide (dn <= 10))) := by rw [hg0, hca, hdn]; rfl
    have HX := hidep hX
    have HGE := hidep hg0
    clear hlen hL96 hX hk hk2 hTX hd hd1 hd2 cb hg0 hca hdn hu3 hu4 hu5 hu6
    go_upto_region 7 with (fail)
    clear hki
    refine zq17 (VG7 Bx g0 wr) ?g7 ?_
    case g7 =>
      intro K' hMK
      by_cases h10 : dn = 10
      · have b1 : ((dn : Int) == 10) = true := by simp; omega
        have b2 : (dn : Int) = 10 := by omega
        have hg2 : g0 = ca := by rw [hg1, h10]; cases ca <;> rfl
        clear hg1 h10
        subst hg2
        go_wp2_with (first
          | (go_at_call 60; refine HCD.out.mono ?_; rintro e w1 ⟨rfl, hw1⟩; rw [hw1]; clear hw1)
          | fail)
        exact ⟨rfl, rfl, rfl, rfl, rfl⟩
      · have b1 : ((dn : Int) == 10) = false := by simp; omega
        have b2 : ¬ (dn : Int) = 10 := by omega
        have hg2 : g0 = false := by
          rw [hg1]
          rcases (by omega : dn < 10 \/ 10 < dn) with h | h
          · rw [decide_eq_false (p := 10 <= dn) (by omega), Bool.false_and, Bool.and_false]
          · rw [decide_eq_false (p := dn <= 10) (by omega), Bool.and_false, Bool.and_false]
        clear hg1 h10
        subst hg2
        go_wp2
        exact ⟨rfl, rfl, rfl, rfl, rfl⟩
    rintro ⟨tB, dB⟩ W ⟨h123, hds, e1, e5, hW⟩
    simp only at h123 hds e1 e5 hW
    subst hds
    (try dsimp only [Exit.then])
    rw [zq5d tB [] h123, e1, e5, hW]
    clear h123 e1 e5 hW hg1
    go_upto_region 9 with (fail)
    obtain ⟨Bl, hBl⟩ : ∃ B, B = wr.heap.size := ⟨_, rfl⟩
    refine zq9 (fun X => TbX w V Bx X /\ X.heap[Bl]? = some (.cells V.inds.toArray 23)) ⟨HX.out.below ((Below.refl _ _).alloc (Nat.le_refl _) _), by rw [hBl, HIN.out]; exact heap_alloc_new _ _⟩ ?_
    rw [<- hBl]
    clear hBl
    rintro X9 ⟨hX9, hl9⟩
    have HG := hidep (show GB T w V Bx Bl (.bool g0) (.int .i64 0) X9 from ⟨0, by omega, rfl, by rw [HGE.out]; simp, hX9, hl9⟩)
    clear hX9 hl9 c2 c3 c4 c5 c6
    refine wp_loop (LoopI 123 (fun tm ds wr => (slot tm 1) = .pointer (some ⟨Bx, 0, none⟩) /\ (slot tm 45) = .slice (some ⟨Bl, 0, none⟩) 4 4 /\ (slot tm 46) = .int .i64 4 /\ ds = [] /\ GB T w V Bx Bl (slot tm 5) (slot tm 47) wr)) (fun a' wr => 4 - natI (a'.tmps.getD 47 undef)) ?lBStart ?lBRound
    case' lBStart => refine LoopI.mk rfl ?_
    case' lBRound => (rintro ⟨t, ds⟩ wr ⟨hts, hrel⟩; dsimp only at hts hrel; rw [zq5d t ds hts])
    case lBStart => exact ⟨rfl, rfl, rfl, rfl, HG.out⟩
    clear HG
    obtain ⟨e1, e45, e46, hds, k, hk4, e47, e5, hX, hl⟩ := hrel
    subst hds
    rw [e1, e5, e45, e46, e47]
    clear e1 e5 e45 e46 e47 hts
    by_cases hk : k < 4
    · have hki : (k : Int) < 4 := by omega
      have hk0 : (0 : Int) <= (k : Int) := by omega
      obtain ⟨ia, ic, il, hiv, hil, hir⟩ := inds_at HT.out k hk
      have hck : wr.cell? ⟨Bl, k, none⟩ = some (.slice ia il.length ic) := by simp [World.cell?, hl, hiv]
      have HI := hidep (indicator_any _ il wr (hir.below hX.1))
      obtain ⟨gp, hgp⟩ : ∃ g, g = (zqc T.dg 10 10 && (T.inds.take k).all (fun l => zqc l 1 4)) := ⟨_, rfl⟩
      obtain ⟨gi, hgi⟩ : ∃ g, g = zqc il 1 4 := ⟨_, rfl⟩
      have HGN := hidep (show (zqc T.dg 10 10 && (T.inds.take (k + 1)).all (fun l => zqc l 1 4)) = (gp && gi) from by
        rw [List.take_add_one, hil, List.all_append, hgp, hgi]
        simp [Bool.and_assoc])
      rw [<- hgp]
      rw [<- hgi] at HI
      obtain ⟨iln, hiln⟩ : ∃ n, n = il.length := ⟨_, rfl⟩
      rw [<- hiln] at hck HI
      have HX := hidep (And.intro hX hl)
      clear hgp hgi hiln hir hil hiv hX hl
      cases gp with
      | true =>
        go_wp2_with (first
          | (go_at_call 61; refine HI.out.mono ?_; rintro e w1 ⟨rfl, hw1⟩; rw [hw1]; clear hw1)
          | fail)
        refine ⟨LoopI.mk rfl ⟨rfl, rfl, rfl, rfl, k + 1, by omega, by show Value.int _ _ = _; go_num, by rw [HGN.out]; rfl, HX.out.1, HX.out.2⟩, ?_⟩
        show 4 - _ < 4 - _
        simp [natI]; omega
      | false =>
        go_wp2
        refine ⟨LoopI.mk rfl ⟨rfl, rfl, rfl, rfl, k + 1, by omega, by show Value.int _ _ = _; go_num, by rw [HGN.out]; rfl, HX.out.1, HX.out.2⟩, ?_⟩
        show 4 - _ < 4 - _
        simp [natI]; omega
    · have hki : ¬ (k : Int) < 4 := by omega
      have hk4e : k = 4 := by omega
      obtain ⟨g1, hg1'⟩ : ∃ g, g = (zqc T.dg 10 10 && (T.inds.take k).all (fun l => zqc l 1 4)) := ⟨_, rfl⟩
      rw [<- hg1']
      have HG1 := hidep (show g1 = (zqc T.dg 10 10 && (zqc T.cp 1 4 && (zqc T.nm 1 4 && (zqc T.en 1 4 && zqc T.sw 1 4)))) from by
        rw [hg1', hk4e]
        simp [TabZ.inds])
      have c0 : wr.cell? ⟨Bx, 0, none⟩ = some V.a := by simp [World.cell?, hX.2]
      have c1 : wr.cell? ⟨Bx, 1, none⟩ = some V.b := by simp [World.cell?, hX.2]
      have HG := hidep (show GC T g1 w V Bx (.bool g1) (.int .i64 0) wr from ⟨0, by omega, rfl, by simp, hX⟩)
      clear hg1' hk4e hX hl hk hk4
      go_upto_region 14 with (fail)
      clear hki c0 c1
      refine wp_loop (LoopI 123 (fun tm ds wr => (slot tm 1) = .pointer (some ⟨Bx, 0, none⟩) /\ (slot tm 58) = .agg #[V.a, V.b] /\ ds = [] /\ GC T g1 w V Bx (slot tm 5) (slot tm 59) wr)) (fun a' wr => 2 - natI (a'.tmps.getD 59 undef)) ?lCStart ?lCRound
      case' lCStart => refine LoopI.mk rfl ?_
      case' lCRound => (rintro ⟨t, ds⟩ wr ⟨hts, hrel⟩; dsimp only at hts hrel; rw [zq5d t ds hts])
      case lCStart => exact ⟨rfl, rfl, rfl, HG.out⟩
      clear HG
      obtain ⟨e1, e58, hds, k, hk2, e59, e5, hX⟩ := hrel
      subst hds
      rw [e1, e5, e58, e59]
      clear e1 e5 e58 e59 hts
      by_cases hk : k < 2
      · have hki : (k : Int) < 2 := by omega
        have hk0 : (0 : Int) <= (k : Int) := by omega
        obtain ⟨ra, rc, hva, hrows, hrl, hrc⟩ := zqe2 HT.out k
        have hidx := fun W => zqda V.a V.b k hk W
        rw [show (if k = 0 then V.a else V.b) = V.at k from rfl, hva] at hidx
        have HCF := hidep (fun Y (hY : Below wr.heap.size wr Y) => containsFuncR_any _ (T.at k) Y (hrows.below (hX.1.trans (hY.mono hX.1.size))) (HOK.out.at k).1)
        obtain ⟨rb, hrb⟩ : ∃ b, b = (T.at k).all zqf := ⟨_, rfl⟩
        obtain ⟨rn, hrnd⟩ : ∃ rn, rn = (T.at k).length := ⟨_, rfl⟩
        rw [<- hrnd] at hidx hrl HCF
        rw [<- hrb] at HCF
        unfold maxLen at hrc
        obtain ⟨gp, hgp⟩ : ∃ g, g = (g1 && ((List.range k).all fun j => (T.at j).all zqf)) := ⟨_, rfl⟩
        have HGN := hidep (show (g1 && ((List.range (k + 1)).all fun j => (T.at j).all zqf)) = (gp && rb) from by
          rw [List.range_succ, List.all_append, hgp, hrb]
          simp [Bool.and_assoc])
        rw [<- hgp]
        have HX := hidep hX
        have hbA := (Below.refl wr.heap.size wr).alloc (Nat.le_refl _) (.cells #[.slice ra rn rc] 26)
        clear hgp hrb hrnd hrows hva hX
        cases gp with
        | true =>
          go_wp2_with (first
            | (go_at_call 62; refine (HCF.out _ hbA).mono ?_; rintro e w1 ⟨rfl, hb1⟩)
            | fail)
          refine ⟨LoopI.mk rfl ⟨rfl, rfl, rfl, k + 1, by omega, by show Value.int _ _ = _; go_num, by rw [HGN.out, Bool.true_and]; rfl, (HX.out.below hbA).below hb1⟩, ?_⟩
          show 2 - _ < 2 - _
          simp [natI]; omega
        | false =>
          go_wp2
          refine ⟨LoopI.mk rfl ⟨rfl, rfl, rfl, k + 1, by omega, by show Value.int _ _ = _; go_num, by rw [HGN.out]; rfl, HX.out.below hbA⟩, ?_⟩
          show 2 - _ < 2 - _
          simp [natI]; omega
      · have hki : ¬ (k : Int) < 2 := by omega
        have hke : k = 2 := by omega
        obtain ⟨g2, hg2'⟩ : ∃ g, g = (g1 && ((List.range k).all fun j => (T.at j).all zqf)) := ⟨_, rfl⟩
        have hge : g2 = (T.l0.all zqf && (T.l1.all zqf && (zqc T.dg 10 10 && (zqc T.cp 1 4 && (zqc T.nm 1 4 && (zqc T.en 1 4 && zqc T.sw 1 4)))))) := by
          rw [hg2', hke, HG1.out]
          have e : ((List.range 2).all fun j => (T.at j).all zqf) = (T.l0.all zqf && T.l1.all zqf) := by
            show ((T.at 0).all zqf && ((T.at 1).all zqf && true)) = _
            rw [Bool.and_true]
            rfl
          rw [e]
          generalize T.l0.all zqf = x0
          generalize T.l1.all zqf = x1
          generalize (zqc T.dg 10 10 && (zqc T.cp 1 4 && (zqc T.nm 1 4 && (zqc T.en 1 4 && zqc T.sw 1 4)))) = x2
          cases x0 <;> cases x1 <;> cases x2 <;> rfl
        rw [<- hg2']
        have hv2 := HV.out
        rw [<- hge] at hv2
        have HV2 := hidep hv2
        clear hg2' hge hv2 hke HG1 HV hk hk2
        cases g2 with
        | false =>
          have HE := hidep (show zq8 T = 1 from by rw [HV2.out]; rfl)
          go_wp2
          go_ret
          exact ⟨by rw [HE.out]; rfl, hX.1⟩
        | true =>
          have HV3 := hidep (show zq8 T = if (zq22 T.l0 || zq22 T.l1) = true then 7 else if (zq23.all (ownB T.l0) && zq23.all (ownB T.l1)) = false then 6 else 0 from by rw [HV2.out]; rfl)
          clear HV2
          go_upto_region 20 with (fail)
          have hbX := hX.1
          have hBxl := lt_of_block hX.2
          go_upto_region 21 with (fail)
          obtain ⟨B10, hB10⟩ : ∃ B, B = wr.heap.size := ⟨_, rfl⟩
          refine zq9 (fun X => MpIn T w V Bx B10 (.map none) (.map none) 0 X) ⟨hX.below ((Below.refl _ _).alloc (Nat.le_refl _) _), by rw [hB10]; exact heap_alloc_new _ _, ⟨by have := hbX.size; omega, by omega⟩, fun h => by omega, fun h => by omega, fun j h => by omega⟩ ?_
          rw [<- hB10]
          clear hB10 hX hbX hBxl
          rintro X20 hM20
          have c0 : X20.cell? ⟨Bx, 0, none⟩ = some V.a := by simp [World.cell?, hM20.tab.2]
          have c1 : X20.cell? ⟨Bx, 1, none⟩ = some V.b := by simp [World.cell?, hM20.tab.2]
          have HG := hidep (show MD T w V Bx B10 (.int .i64 0) X20 from ⟨0, _, _, by omega, rfl, hM20⟩)
          clear hM20
          go_upto_region 22 with (fail)
          clear c0 c1
          refine wp_loop (LoopI 123 (fun tm ds wr => (slot tm 1) = .pointer (some ⟨Bx, 0, none⟩) /\ (slot tm 10) = .pointer (some ⟨B10, 0, none⟩) /\ (slot tm 73) = .agg #[V.a, V.b] /\ ds = [] /\ MD T w V Bx B10 (slot tm 74) wr)) (fun a' wr => 2 - natI (a'.tmps.getD 74 undef)) ?lDStart ?lDRound
          case' lDStart => refine LoopI.mk rfl ?_
          case' lDRound => (rintro ⟨t, ds⟩ wr ⟨hts, hrel⟩; dsimp only at hts hrel; rw [zq5d t ds hts])
          case lDStart => exact ⟨rfl, rfl, rfl, rfl, HG.out⟩
          clear HG
          obtain ⟨e1, e10, e73, hds, k, m0, m1, hk2, e74, hM⟩ := hrel
          subst hds
          rw [e1, e10, e73, e74]
          clear e1 e10 e73 e74 hts
          by_cases hk : k < 2
          · have hki : (k : Int) < 2 := by omega
            have hk0 : (0 : Int) <= (k : Int) := by omega
            obtain ⟨ra, rc, hva, hrows, hrl, hrc⟩ := zqe2 HT.out k
            have hidx := fun W => zqda V.a V.b k hk W
            rw [show (if k = 0 then V.a else V.b) = V.at k from rfl, hva] at hidx
            have HRW := hidep hrows
            have HKK := hidep hk
            obtain ⟨L, hL⟩ : ∃ L, L = T.at k := ⟨_, rfl⟩
            rw [<- hL] at hidx hrl HRW
            have HL := hidep hL
            obtain ⟨n, hn⟩ : ∃ n, n = L.length := ⟨_, rfl⟩
            rw [<- hn] at hidx hrl HRW
            have HN := hidep hn
            unfold maxLen at hrc
            have HM := hidep hM
            have hmm := @run_makeMap Tryz.prog
            have hM2 := (hM.below ((Below.refl wr.heap.size wr).alloc (Nat.le_refl _) (.cells #[.slice ra n rc] 26))).below ((Below.refl _ _).alloc (Nat.le_refl _) (.map #[] 0))
            have hfz := zq31 hM2.box k
            have hck : ∃ mv, ((wr.alloc (.cells #[.slice ra n rc] 26)).alloc (.map #[] 0)).cell? ⟨B10, k, none⟩ = some mv := by
              rcases (by omega : k = 0 \/ k = 1) with rfl | rfl
              · exact ⟨m0, by simp [World.cell?, hM2.box]⟩
              · exact ⟨m1, by simp [World.cell?, hM2.box]⟩
            obtain ⟨mv, hck⟩ := hck
            have hB10 := lt_of_block hM.box
            clear hn hL hrows hva hM hM2
            go_upto_region 24 with (fail)
            go_upto_region 25 with (fail)
            have hin := ind_start (L := L) HM.out HKK.out (.cells #[.slice ra n rc] 26)
            have hcA : ((wr.alloc (.cells #[.slice ra n rc] 26)).alloc (.map #[] 0)).cell? ⟨wr.heap.size, 0, none⟩ = some (.slice ra n rc) := by
              have h1 := zq0 ((Below.refl _ _).alloc (Nat.le_refl _) (.map #[] 0)) (heap_alloc_new wr (.cells #[.slice ra n rc] 26))
              simp [World.cell?, h1]
            go_upto_region 26 with (fail)
            obtain ⟨mb, hmb⟩ : ∃ mb, mb = wr.heap.size + 1 := ⟨_, rfl⟩
            refine zq9 (fun X => InD T w V Bx B10 k mb (if k = 0 then m1 else m0) L 0 X) (by rw [hmb]; exact hin) ?_
            obtain ⟨mo, hmo⟩ : ∃ mo, mo = (if k = 0 then m1 else m0) := ⟨_, rfl⟩
            rw [<- hmo]
            clear hin hcA hmb hmo hck hfz hmm hB10
            rintro X26 hI26
            have HG := hidep (show IDI T w V Bx B10 k mb mo L (.int .i64 0) X26 from ⟨0, Nat.zero_le _, rfl, hI26⟩)
            clear hI26
            refine wp_loop (LoopI 123 (fun tm ds wr => (slot tm 1) = .pointer (some ⟨Bx, 0, none⟩) /\ (slot tm 10) = .pointer (some ⟨B10, 0, none⟩) /\ (slot tm 11) = .int .i64 (k : Nat) /\ (slot tm 73) = .agg #[V.a, V.b] /\ (slot tm 74) = .int .i64 (k : Nat) /\ (slot tm 82) = .slice ra n rc /\ (slot tm 83) = .int .i64 (n : Nat) /\ ds = [] /\ IDI T w V Bx B10 k mb mo L (slot tm 84) wr)) (fun a' wr => n - natI (a'.tmps.getD 84 undef)) ?lDiStart ?lDiRound
            case' lDiStart => refine LoopI.mk rfl ?_
            case' lDiRound => (rintro ⟨t, ds⟩ wr ⟨hts, hrel⟩; dsimp only at hts hrel; rw [zq5d t ds hts])
            case lDiStart => exact ⟨rfl, rfl, rfl, rfl, rfl, rfl, rfl, rfl, HG.out⟩
            clear HG
            obtain ⟨e1, e10, e11, e73, e74, e82, e83, hds, i, hi, e84, hI⟩ := hrel
            subst hds
            rw [e1, e10, e11, e73, e74, e82, e83, e84]
            clear e1 e10 e11 e73 e74 e82 e83 e84 hts
            rw [<- HN.out] at hi
            by_cases hin : i < n
            · have hini : (i : Int) < (n : Int) := by omega
              have hi0 : (0 : Int) <= (i : Int) := by omega
              have hiL : i < L.length := by rw [<- HN.out]; exact hin
              have hrw := HRW.out.below hI.tab.1
              rw [HN.out] at hrw
              obtain ⟨b, off, ua, un, uc, rfl, hbb, hc0, hc1, hc2, hu⟩ := zq4e hrw hiL
              have hrok := (HOK.out.at k).1 L[i] (by rw [<- HL.out]; exact List.getElem_mem hiL)
              obtain ⟨y, hy⟩ : ∃ y, y = L[i] := ⟨_, rfl⟩
              rw [<- hy] at hc0 hc1 hrok
              have hgy : L.getD i rule0 = y := by rw [List.getD_eq_getElem?_getD, List.getElem?_eq_getElem hiL, hy]; rfl
              have HY := hidep (And.intro hy hgy)
              have HI := hidep hI
              clear hy hgy hu hrw hI
              obtain ⟨s, wh, cl⟩ := y
              simp only at hc0 hc1
              have hnok : NmOk s wh := hrok
              have HNOK := hidep hnok
              clear hrok hnok
              go_upto_region 29 with (fail)
              obtain ⟨E2, hE2⟩ : ∃ E, E = wr.heap.size + 1 := ⟨_, rfl⟩
              refine zq9 (fun X => InD T w V Bx B10 k mb mo L i X /\ X.heap[E2]? = some (.cells #[.string s, .int .i64 wh] 115)) ⟨(HI.out.below ((Below.refl _ _).alloc (Nat.le_refl _) _)).below ((Below.refl _ _).alloc (Nat.le_refl _) _), by
                rw [hE2]
                have h := heap_alloc_new (wr.alloc (.cells #[.string s, .int .i64 wh, .slice ua un uc] 59)) (.cells #[.string s, .int .i64 wh] 115)
                simpa using h⟩ ?_
              rw [<- hE2]
              clear hE2 hc0 hc1 hc2
              rintro Y ⟨hIY, hE⟩
              obtain ⟨nq0, M, hnm, hnn, hnv⟩ := hIY.cur
              obtain ⟨nin, hnin⟩ : ∃ b, b = zq57 s wh (L.take i) := ⟨_, rfl⟩
              have hlk : ∀ n, (Instr.lookup 112 (.map (some mb)) (.agg #[.string s, .int .i64 wh]) false).run Tryz.prog (Y.drewN n) = .ok (.bool nin) (Y.drewN n) := fun n => by
                rw [hnin]
                exact zqb8 (hnm.below (zq6 (Below.refl _ _) n)) hnv HNOK.out
              have hcb : Y.cell? ⟨B10, k, none⟩ = some (.map (some mb)) := by
                rcases (by have := HKK.out; omega : k = 0 \/ k = 1) with rfl | rfl
                · simp [World.cell?, hIY.box]
                · simp [World.cell?, hIY.box]
              have he0 : Y.cell? ⟨E2, 0, none⟩ = some (.string s) := by simp [World.cell?, hE]
              have he1 : Y.cell? ⟨E2, 1, none⟩ = some (.int .i64 wh) := by simp [World.cell?, hE]
              have HIY := hidep (And.intro hIY (And.intro hE (And.intro hnm (And.intro hnn hnv))))
              have HNI := hidep hnin
              clear hIY hE hnm hnn hnv hnin
              refine wp_cutA 123 (fun tm ds => ds = [] /\ slot tm 1 = .pointer (some ⟨Bx, 0, none⟩) /\ slot tm 10 = .pointer (some ⟨B10, 0, none⟩) /\ slot tm 11 = .int .i64 (k : Nat) /\ slot tm 15 = .pointer (some ⟨E2, 0, none⟩) /\ slot tm 73 = .agg #[V.a, V.b] /\ slot tm 74 = .int .i64 (k : Nat) /\ slot tm 82 = .slice (some ⟨b, off, none⟩) n rc /\ slot tm 83 = .int .i64 (n : Nat) /\ slot tm 84 = .int .i64 (i : Nat)) (by kernel_rfl) (by exact ⟨by kernel_rfl, by kernel_rfl, by kernel_rfl, by kernel_rfl, by kernel_rfl, by kernel_rfl, by kernel_rfl, by kernel_rfl, by kernel_rfl, by kernel_rfl⟩) ?_
              rintro tA dA h123 ⟨rfl, e1, e10, e11, e15, e73, e74, e82, e83, e84⟩
              rw [zq5d tA [] h123, e1, e10, e11, e15, e73, e74, e82, e83, e84]
              clear h123 e1 e10 e11 e15 e73 e74 e82 e83 e84
              go_quiet (fail)
              (try dsimp only [Exit.inBlock, Exit.then])
              try apply_assumption
              clear hlk hcb he0 he1
              cases nin with
              | true =>
                have HE := hidep (show zq8 T = 7 from by
                  have h2 := HNI.out.symm
                  rw [nameIn_same ⟨s, wh, cl⟩] at h2
                  obtain ⟨j, hj, hp⟩ := (zqa8 _ (by omega)).1 h2
                  have h3 := twice_true hiL hj (by rw [HY.out.2]; exact hp)
                  rw [HL.out] at h3
                  rw [HV3.out, if_pos]
                  rcases (by have := HKK.out; omega : k = 0 \/ k = 1) with rfl | rfl
                  · have h3 : zq22 T.l0 = true := h3
                    rw [h3, Bool.true_or]
                  · have h3 : zq22 T.l1 = true := h3
                    rw [h3, Bool.or_true])
                go_wp2
                go_ret
                exact ⟨by rw [HE.out]; rfl, (HIY.out.1.below (zq6 (Below.refl _ _) _)).tab.1⟩
              | false =>
                refine zq9 (fun X => InD T w V Bx B10 k mb mo L i X /\ X.heap[E2]? = some (.cells #[.string s, .int .i64 wh] 115)) ⟨HIY.out.1.below (zq6 (Below.refl _ _) _), zq0 (zq6 (Below.refl _ _) _) HIY.out.2.1⟩ ?_
                clear HIY
                rintro Z ⟨hIZ, hE⟩
                have hcb : Z.cell? ⟨B10, k, none⟩ = some (.map (some mb)) := by
                  rcases (by have := HKK.out; omega : k = 0 \/ k = 1) with rfl | rfl
                  · simp [World.cell?, hIZ.box]
                  · simp [World.cell?, hIZ.box]
                have he0 : Z.cell? ⟨E2, 0, none⟩ = some (.string s) := by simp [World.cell?, hE]
                have he1 : Z.cell? ⟨E2, 1, none⟩ = some (.int .i64 wh) := by simp [World.cell?, hE]
                have hIZd := hIZ.below (Below.refl _ _).drew
                obtain ⟨nq1, M1, hnm1, hnn1, hnv1⟩ := hIZd.cur
                obtain ⟨w3, hr3, ho3, hg3⟩ := hnm1.update (P := Tryz.prog) zqd8 Tryz.underlying112 (by have := HOK.out; unfold maxLen; omega) (keyN HNOK.out) (plainElem_bool Tryz.underlying4 true)
                unfold nameV at hr3
                have HP := hidep (show InD T w V Bx B10 k mb mo L (i + 1) w3 from hIZd.put hiL (r := ⟨s, wh, cl⟩) HY.out.1.symm hg3 ho3 hnv1 hnm1.isMap hnn1 HNOK.out (fun j hj => by
                  have h2 := HNI.out.symm
                  rw [nameIn_same ⟨s, wh, cl⟩] at h2
                  rw [HY.out.2]
                  cases hq : sameR ⟨s, wh, cl⟩ (L.getD j rule0) with
                  | false => rfl
                  | true =>
                    rw [(zqa8 (sameR ⟨s, wh, cl⟩) (by omega)).2 ⟨j, hj, hq⟩] at h2
                    cases h2))
                clear hIZ hE hIZd hnm1 hnn1 hnv1 ho3 hg3
                go_upto_region 31 with (fail)
                go_region
                go_wp2
                refine ⟨LoopI.mk rfl ⟨rfl, rfl, rfl, rfl, rfl, rfl, rfl, rfl, i + 1, by omega, by show Value.int _ _ = _; go_num, HP.out⟩, ?_⟩
                show n - _ < n - _
                simp [natI]; omega
            · have hini : ¬ (i : Int) < (n : Int) := by omega
              have hie : i = L.length := by rw [<- HN.out]; omega
              have HMK := hidep (show ∃ m0 m1, MpIn T w V Bx B10 m0 m1 (k + 1) wr from hI.done HKK.out HL.out hie (by have := HL96.out k; rw [<- HL.out] at this; exact this))
              clear hI hie
              go_wp2
              obtain ⟨m0', m1', hMK⟩ := HMK.out
              refine ⟨LoopI.mk rfl ⟨rfl, rfl, rfl, rfl, k + 1, m0', m1', by have := HKK.out; omega, by show Value.int _ _ = _; go_num, hMK⟩, ?_⟩
              show 2 - _ < 2 - _
              simp [natI]; omega
          · have hki : ¬ (k : Int) < 2 := by omega
            have hke : k = 2 := by omega
            subst hke
            have hv4 := HV3.out
            have h0 : zq22 T.l0 = false := hM.tw 0 (by omega)
            have h1 : zq22 T.l1 = false := hM.tw 1 (by omega)
            rw [h0, h1, Bool.or_false, if_neg (by decide)] at hv4
            have HV4 := hidep hv4
            obtain ⟨b0, n0, M0, rfl, hb0, hm0, hn0, hv0⟩ := hM.one (by omega)
            obtain ⟨b1, n1, M1, rfl, hb1, hm1, hn1, hv1⟩ := hM.two (by omega)
            have HMM := hidep (And.intro hM (And.intro hm0 (And.intro hv0 (And.intro hm1 hv1))))
            have hM2 := hM
            clear hM hm0 hv0 hm1 hv1 hv4 h0 h1
            have HG := hidep (show EI T w V Bx B10 b0 b1 (.int .u8 97) wr from ⟨0, by omega, rfl, fun j hj => by omega, hM2⟩)
            clear hM2
            go_upto_region 35 with (fail)
            clear hki
            refine wp_loop (LoopI 123 (fun tm ds wr => (slot tm 1) = .pointer (some ⟨Bx, 0, none⟩) /\ (slot tm 10) = .pointer (some ⟨B10, 0, none⟩) /\ ds = [] /\ EI T w V Bx B10 b0 b1 (slot tm 16) wr)) (fun a' wr => 123 - natI (a'.tmps.getD 16 undef)) ?lEStart ?lERound
            case' lEStart => refine LoopI.mk rfl ?_
            case' lERound => (rintro ⟨t, ds⟩ wr ⟨hts, hrel⟩; dsimp only at hts hrel; rw [zq5d t ds hts])
            case lEStart => exact ⟨rfl, rfl, rfl, HG.out⟩
            clear HG
            obtain ⟨e1, e10, hds, m, hm, e16, hall, hM⟩ := hrel
            subst hds
            rw [e1, e10, e16]
            clear e1 e10 e16 hts
            by_cases hm26 : m < 26
            · obtain ⟨c, hc⟩ : ∃ c : Int, c = 97 + (m : Int) := ⟨_, rfl⟩
              have hcb : 97 <= c /\ c <= 122 := by omega
              have hwc : IntKind.u8.wrap (c + 1) = c + 1 := IntWalk.u8_in _ (by omega)
              have hcle : c <= 122 := hcb.2
              obtain ⟨sc, hsc⟩ : ∃ sc, sc = Utf8.encode c := ⟨_, rfl⟩
              have hby : byts sc = [c] := by rw [hsc]; exact encode_asciiT (by omega) (by omega)
              have hscs : sc.size <= 100000 := by rw [<- zq1a, hby]; simp
              have hnok : NmOk sc 0 := ⟨hscs, by omega, by omega⟩
              have hM3 := hM.below ((Below.refl _ _).alloc (Nat.le_refl _) (.cells #[.string sc, .int .i64 0] 115))
              obtain ⟨b0', n0', M0', q0, _, hm0, _, hv0⟩ := hM3.one (by omega)
              obtain ⟨b1', n1', M1', q1, _, hm1, _, hv1⟩ := hM3.two (by omega)
              injection q0 with q0
              injection q0 with q0
              injection q1 with q1
              injection q1 with q1
              subst q0 q1
              have hl0 := zqb8 hm0 hv0 hnok
              have hl1 := zqb8 hm1 hv1 hnok
              rw [nameIn_own c sc hby] at hl0 hl1
              unfold nameV at hl0 hl1
              have hcc0 : (wr.alloc (.cells #[.string sc, .int .i64 0] 115)).cell? ⟨B10, 0, none⟩ = some (.map (some b0)) := by simp [World.cell?, hM3.box]
              have hcc1 : (wr.alloc (.cells #[.string sc, .int .i64 0] 115)).cell? ⟨B10, 1, none⟩ = some (.map (some b1)) := by simp [World.cell?, hM3.box]
              have HM3 := hidep hM3
              have HALL := hidep hall
              have HC := hidep hc
              obtain ⟨o0, ho0⟩ : ∃ o, o = ownB T.l0 c := ⟨_, rfl⟩
              obtain ⟨o1, ho1⟩ : ∃ o, o = ownB T.l1 c := ⟨_, rfl⟩
              rw [<- ho0] at hl0
              rw [<- ho1] at hl1
              have HO := hidep (And.intro ho0 ho1)
              have HE6 := hidep (show (o0 && o1) = false -> zq8 T = 6 from fun hf => by
                rw [HV4.out, if_pos]
                have hmem : c ∈ zq23 := List.mem_map.2 ⟨m, List.mem_range.2 hm26, by rw [hc]⟩
                rw [Bool.and_eq_false_iff] at hf ⊢
                rcases hf with hf | hf
                · left
                  rw [List.all_eq_false]
                  exact ⟨c, hmem, by rw [<- ho0, hf]; decide⟩
                · right
                  rw [List.all_eq_false]
                  exact ⟨c, hmem, by rw [<- ho1, hf]; decide⟩)
              rw [<- hc]
              clear hM hM3 hm0 hm1 hv0 hv1 hall hby hscs ho0 ho1 hc
              rw [hsc] at hl0 hl1 hcc0 hcc1 HM3
              clear hsc hnok
              cases o0 with
              | true =>
                cases o1 with
                | true =>
                  have HA := hidep (show ∀ m', m' < m + 1 -> (ownB T.l0 (97 + (m' : Int)) && ownB T.l1 (97 + (m' : Int))) = true from fun m' hm' => by
                    rcases (by omega : m' < m \/ m' = m) with h | rfl
                    · exact HALL.out m' h
                    · rw [<- HC.out, <- HO.out.1, <- HO.out.2]; rfl)
                  go_wp2
                  refine ⟨LoopI.mk rfl ⟨rfl, rfl, rfl, m + 1, by omega, by show Value.int _ _ = _; rw [HC.out]; go_num, HA.out, HM3.out⟩, ?_⟩
                  show 123 - _ < 123 - _
                  simp [natI]; omega
                | false =>
                  have HE := hidep (HE6.out rfl)
                  go_wp2
                  go_ret
                  exact ⟨by rw [HE.out]; rfl, HM3.out.tab.1⟩
              | false =>
                have HE := hidep (HE6.out rfl)
                go_wp2
                go_ret
                exact ⟨by rw [HE.out]; rfl, HM3.out.tab.1⟩
            · have hme : m = 26 := by omega
              subst hme
              have HE := hidep (show zq8 T = 0 from by
                have h0 : zq23.all (ownB T.l0) = true := by
                  rw [List.all_eq_true]
                  intro x hx
                  obtain ⟨m', hm', rfl⟩ := List.mem_map.1 hx
                  have := hall m' (List.mem_range.1 hm')
                  rw [Bool.and_eq_true] at this
                  exact this.1
                have h1 : zq23.all (ownB T.l1) = true := by
                  rw [List.all_eq_true]
                  intro x hx
                  obtain ⟨m', hm', rfl⟩ := List.mem_map.1 hx
                  have := hall m' (List.mem_range.1 hm')
                  rw [Bool.and_eq_true] at this
                  exact this.2
                rw [HV4.out, h0, h1]
                rfl)
              have HB := hidep hM.tab.1
              clear hall hM
              go_wp2
              go_ret
              exact ⟨by rw [HE.out]; rfl, HB.out⟩
end Go.Proofs.YtcfjepcflanjbaaGreat
