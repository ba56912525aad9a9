/- Contract: the code's offer: it hands the moves of a place, one after the other, to a taker. -/
import Derived.Test.YtcfjepcflanjbaaGreatBr02
import Derived.Test.YtcfjepcflanjbaaGreatBr21
import Derived.Test.YtcfjepcflanjbaaGreatBr24
import Derived.Laws.EntriesVeiled
namespace Go.Proofs.YtcfjepcflanjbaaGreat
open Go.RowKit Go.Lab Go.Shelf
set_option maxRecDepth 100000
theorem Turned.trans' {T : Nat -> Prop} {q : Nat} {a b c : World} (h : Turned T a b) (k : Turned (fun x => x = q) b c) (hq : a.heap.size <= q) : Turned T a c :=
  ⟨k.os.trans h.os, k.tape.trans h.tape, k.output.trans h.output, Nat.le_trans h.size k.size, fun x hx hT => (k.block x (Nat.lt_of_lt_of_le hx h.size) (fun e => by omega)).trans (h.block x hx hT)⟩
abbrev Hold := List MvZ -> (Nat -> Prop) -> World -> Prop
structure Taker (w0 : World) (T : TabZ) (p : PlZ) (f : FuncId) (bs : Array Value) (J : Hold) : Prop where
  low : ∀ (d : List MvZ) (B : Nat -> Prop) (W : World), J d B W -> Below w0.heap.size w0 W /\ ∀ b, B b -> w0.heap.size <= b /\ b < W.heap.size
  grow : ∀ (d : List MvZ) (B N : Nat -> Prop) (W W' : World), J d B W -> Turned N W W' -> (∀ b, N b -> ¬ B b /\ w0.heap.size <= b) -> J d B W'
  ent : ∀ args w, (callFunc f args).run Tryz.prog w = .ok (.enter f args) w
  step : ∀ (d : List MvZ) (m : MvZ) (rest : List MvZ), zqa T p = d ++ m :: rest -> ∀ (B : Nat -> Prop) (W : World) (u : Value), J d B W -> BysAt W u m.cells ->
    Calls Tryz.prog f (#[u, .string m.text, .bool m.cap, .agg #[.int .i64 0, .int .i64 m.dst.st.lang, .bool m.dst.st.num, .bool m.dst.st.word, .int .i64 (m.dst.need : Nat), .bool m.dst.sw]] ++ bs) W
      fun e W' => e = .returned (.tuple #[]) /\ ∃ B', J (d ++ [m]) B' W' /\ Turned B W W' /\ ∀ b, b < W.heap.size -> B' b -> B b
def OfI (J : Hold) (w : World) (B : Nat -> Prop) (bx : List (Nat × Obj)) (d : List MvZ) (wr : World) : Prop :=
  ∃ B' : Nat -> Prop, J d B' wr /\ Turned B w wr /\ (∀ b, b < w.heap.size -> B' b -> B b) /\ ∀ x ∈ bx, w.heap.size <= x.1 /\ ¬ B' x.1 /\ wr.heap[x.1]? = some x.2
section
variable {w0 w W W' : World} {T : TabZ} {p : PlZ} {f : FuncId} {bs : Array Value} {J : Hold} {B : Nat -> Prop} {bx : List (Nat × Obj)} {d : List MvZ}
theorem OfI.start (h : J d B w) : OfI J w B [] d w := ⟨B, h, Turned.refl _ _, fun _ _ h => h, fun x hx => by cases hx⟩
theorem OfI.low (K : Taker w0 T p f bs J) (h : OfI J w B bx d W) : Below w0.heap.size w0 W := let ⟨_, h, _⟩ := h; (K.low _ _ _ h).1
theorem OfI.size (h : OfI J w B bx d W) : w.heap.size <= W.heap.size := let ⟨_, _, h, _⟩ := h; h.size
theorem OfI.box (h : OfI J w B bx d W) {q : Nat} {o : Obj} (hq : (q, o) ∈ bx) : W.heap[q]? = some o := by
  obtain ⟨B', _, _, _, h⟩ := h
  exact (h _ hq).2.2
theorem OfI.below (K : Taker w0 T p f bs J) (h : OfI J w B bx d W) (hb : Below W.heap.size W W') : OfI J w B bx d W' := by
  obtain ⟨B', h1, h2, h3, h4⟩ := h
  exact ⟨B', K.grow _ _ (fun _ => False) _ _ h1 (Turned.of_below hb) (fun _ h => h.elim), h2.below hb, h3, fun x hx => ⟨(h4 x hx).1, (h4 x hx).2.1, zq0 hb (h4 x hx).2.2⟩⟩
theorem OfI.add (K : Taker w0 T p f bs J) (h : OfI J w B bx d W) (hb : Below W.heap.size W W') {o : Obj} (ho : W'.heap[W.heap.size]? = some o) : OfI J w B ((W.heap.size, o) :: bx) d W' := by
  have hs := h.size
  obtain ⟨B', h1, h2, h3, h4⟩ := h
  refine ⟨B', K.grow _ _ (fun _ => False) _ _ h1 (Turned.of_below hb) (fun _ h => h.elim), h2.below hb, h3, fun x hx => ?_⟩
  rcases List.mem_cons.1 hx with rfl | hx
  · exact ⟨hs, fun hB => Nat.lt_irrefl _ ((K.low _ _ _ h1).2 _ hB).2, ho⟩
  · exact ⟨(h4 x hx).1, (h4 x hx).2.1, zq0 hb (h4 x hx).2.2⟩
theorem OfI.drop (h : OfI J w B bx d W) {bx' : List (Nat × Obj)} (hx : ∀ x ∈ bx', x ∈ bx) : OfI J w B bx' d W := by
  obtain ⟨B', h1, h2, h3, h4⟩ := h
  exact ⟨B', h1, h2, h3, fun x h => h4 x (hx x h)⟩
theorem OfI.set (K : Taker w0 T p f bs J) (hw0 : w0.heap.size <= w.heap.size) {q : Nat} {cur : Array Value} {t : TypeId} (h : OfI J w B ((q, .cells cur t) :: bx) d W) (hq : ∀ x ∈ bx, x.1 ≠ q) (j : Nat) (v : Value) : OfI J w B ((q, .cells (cur.setIfInBounds j v) t) :: bx) d (W.setCell ⟨q, j, none⟩ v) := by
  obtain ⟨B', h1, h2, h3, h4⟩ := h
  have hx := h4 _ (List.mem_cons_self ..)
  simp only at hx
  have ht : Turned (fun b => b = q) W (W.setCell ⟨q, j, none⟩ v) := (Turned.refl _ _).setCell ⟨q, j, none⟩ v (.inr rfl)
  refine ⟨B', K.grow _ _ (fun b => b = q) _ _ h1 ht (fun b hb => by subst hb; exact ⟨hx.2.1, Nat.le_trans hw0 hx.1⟩), h2.trans' ht hx.1, h3, fun x hx2 => ?_⟩
  rcases List.mem_cons.1 hx2 with rfl | hx2
  · exact ⟨hx.1, hx.2.1, zq12 hx.2.2 j v⟩
  · have hne := hq x hx2
    have h5 := h4 x (List.mem_cons_of_mem _ hx2)
    exact ⟨h5.1, h5.2.1, by rw [Below.heap_setCell W ⟨q, j, none⟩ v x.1 hne]; exact h5.2.2⟩
theorem OfI.call (K : Taker w0 T p f bs J) (h : OfI J w B bx d W) {m : MvZ} {rest : List MvZ} (hm : zqa T p = d ++ m :: rest) {u : Value} (hu : BysAt W u m.cells) :
    Calls Tryz.prog f (#[u, .string m.text, .bool m.cap, .agg #[.int .i64 0, .int .i64 m.dst.st.lang, .bool m.dst.st.num, .bool m.dst.st.word, .int .i64 (m.dst.need : Nat), .bool m.dst.sw]] ++ bs) W
      fun e W' => e = .returned (.tuple #[]) /\ OfI J w B bx (d ++ [m]) W' := by
  obtain ⟨B', h1, h2, h3, h4⟩ := h
  refine (K.step d m rest hm B' W u h1 hu).mono ?_
  rintro e W' ⟨rfl, B2, g1, g2, g3⟩
  refine ⟨rfl, B2, g1, ⟨g2.os.trans h2.os, g2.tape.trans h2.tape, g2.output.trans h2.output, Nat.le_trans h2.size g2.size, fun b hb hB => ?_⟩, fun b hb hB => h3 b hb (g3 b (Nat.lt_of_lt_of_le hb h2.size) hB), fun x hx => ?_⟩
  · exact (g2.block b (Nat.lt_of_lt_of_le hb h2.size) (fun hB' => hB (h3 b hb hB'))).trans (h2.block b hb hB)
  · have h5 := h4 x hx
    have hlt : x.1 < W.heap.size := lt_of_block h5.2.2
    exact ⟨h5.1, fun hB => h5.2.1 (g3 _ hlt hB), (g2.block x.1 hlt h5.2.1).trans h5.2.2⟩
theorem OfI.done (h : OfI J w B bx d W) : ∃ B', J d B' W /\ Turned B w W /\ ∀ b, b < w.heap.size -> B' b -> B b := by
  obtain ⟨B', h1, h2, h3, _⟩ := h
  exact ⟨B', h1, h2, h3⟩
end
theorem zq38 (t : Array Value) (ds : List Deferred) (h : t.size = 179) : ({ tmps := t, defers := ds } : Act) = { tmps := #[slot t 0, slot t 1, slot t 2, slot t 3, slot t 4, slot t 5, slot t 6, slot t 7, slot t 8, slot t 9, slot t 10, slot t 11, slot t 12, slot t 13, slot t 14, slot t 15, slot t 16, slot t 17, slot t 18, slot t 19, slot t 20, slot t 21, slot t 22, slot t 23, slot t 24, slot t 25, slot t 26, slot t 27, slot t 28, slot t 29, slot t 30, slot t 31, slot t 32, slot t 33, slot t 34, slot t 35, slot t 36, slot t 37, slot t 38, slot t 39, slot t 40, slot t 41, slot t 42, slot t 43, slot t 44, slot t 45, slot t 46, slot t 47, slot t 48, slot t 49, slot t 50, slot t 51, slot t 52, slot t 53, slot t 54, slot t 55, slot t 56, slot t 57, slot t 58, slot t 59, slot t 60, slot t 61, slot t 62, slot t 63, slot t 64, slot t 65, slot t 66, slot t 67, slot t 68, slot t 69, slot t 70, slot t 71, slot t 72, slot t 73, slot t 74, slot t 75, slot t 76, slot t 77, slot t 78, slot t 79, slot t 80, slot t 81, slot t 82, slot t 83, slot t 84, slot t 85, slot t 86, slot t 87, slot t 88, slot t 89, slot t 90, slot t 91, slot t 92, slot t 93, slot t 94, slot t 95, slot t 96, slot t 97, slot t 98, slot t 99, slot t 100, slot t 101, slot t 102, slot t 103, slot t 104, slot t 105, slot t 106, slot t 107, slot t 108, slot t 109, slot t 110, slot t 111, slot t 112, slot t 113, slot t 114, slot t 115, slot t 116, slot t 117, slot t 118, slot t 119, slot t 120, slot t 121, slot t 122, slot t 123, slot t 124, slot t 125, slot t 126, slot t 127, slot t 128, slot t 129, slot t 130, slot t 131, slot t 132, slot t 133, slot t 134, slot t 135, slot t 136, slot t 137, slot t 138, slot t 139, slot t 140, slot t 141, slot t 142, slot t 143, slot t 144, slot t 145, slot t 146, slot t 147, slot t 148, slot t 149, slot t 150, slot t 151, slot t 152, slot t 153, slot t 154, slot t 155, slot t 156, slot t 157, slot t 158, slot t 159, slot t 160, slot t 161, slot t 162, slot t 163, slot t 164, slot t 165, slot t 166, slot t 167, slot t 168, slot t 169, slot t 170, slot t 171, slot t 172, slot t 173, slot t 174, slot t 175, slot t 176, slot t 177, slot t 178], defers := ds } :=
  (congrArg (fun x => ({ tmps := x, defers := ds } : Act)) (zq1e h)).trans (by kernel_rfl)
def RdBox (V : TabV) (cv : Value) : Obj := .cells #[V.a, V.b, V.d, V.c, V.n, V.e, V.s, cv] 119
theorem rd8 {V : TabV} {cv : Value} {R : Nat} {W : World} (h : W.heap[R]? = some (RdBox V cv)) : W.cell? ⟨R, 0, none⟩ = some V.a /\ W.cell? ⟨R, 1, none⟩ = some V.b /\ W.cell? ⟨R, 2, none⟩ = some V.d /\ W.cell? ⟨R, 3, none⟩ = some V.c /\ W.cell? ⟨R, 4, none⟩ = some V.n /\ W.cell? ⟨R, 5, none⟩ = some V.e /\ W.cell? ⟨R, 6, none⟩ = some V.s /\ W.cell? ⟨R, 7, none⟩ = some cv := by
  unfold RdBox at h
  refine ⟨?_, ?_, ?_, ?_, ?_, ?_, ?_, ?_⟩ <;> simp [World.cell?, h]
def PlBox (k : Int) (p : PlZ) : Obj := .cells #[.int .i64 k, .int .i64 p.st.lang, .bool p.st.num, .bool p.st.word, .int .i64 (p.need : Nat), .bool p.sw] 133
theorem pl6 {k : Int} {p : PlZ} {b : Nat} {W : World} (h : W.heap[b]? = some (PlBox k p)) : W.cell? ⟨b, 0, none⟩ = some (.int .i64 k) /\ W.cell? ⟨b, 1, none⟩ = some (.int .i64 p.st.lang) /\ W.cell? ⟨b, 2, none⟩ = some (.bool p.st.num) /\ W.cell? ⟨b, 3, none⟩ = some (.bool p.st.word) /\ W.cell? ⟨b, 4, none⟩ = some (.int .i64 (p.need : Nat)) /\ W.cell? ⟨b, 5, none⟩ = some (.bool p.sw) := by
  unfold PlBox at h
  exact box6 h
theorem rules_row {w0 : World} {V : TabV} {T : TabZ} (hT : TabIn w0 V T) {lang : Int} (h : lang = 0 \/ lang = 1) : ∃ a c, (if lang = 0 then V.a else V.b) = .slice a (T.rules lang).length c /\ RulesAt w0 (.slice a (T.rules lang).length c) (T.rules lang) /\ (T.rules lang).length <= c /\ c <= maxLen := by
  rcases h with rfl | rfl
  · obtain ⟨a, c, ha, h1, h2⟩ := hT.r0.form
    have := hT.r0
    rw [ha] at this
    exact ⟨a, c, by rw [if_pos rfl]; exact ha, this, h1, h2⟩
  · obtain ⟨a, c, ha, h1, h2⟩ := hT.r1.form
    have := hT.r1
    rw [ha] at this
    exact ⟨a, c, by rw [if_neg (by decide)]; exact ha, this, h1, h2⟩
def OfA (J : Hold) (w : World) (B : Nat -> Prop) (bx : List (Nat × Obj)) (d : List MvZ) (v0 v2 v4 v22 v23 v24 : Value) : Act -> World -> Prop := fun a W => a.tmps.size = 179 /\ a.defers = [] /\ slot a.tmps 0 = v0 /\ slot a.tmps 2 = v2 /\ slot a.tmps 4 = v4 /\ slot a.tmps 22 = v22 /\ slot a.tmps 23 = v23 /\ slot a.tmps 24 = v24 /\ OfI J w B bx d W
def OfB (J : Hold) (w : World) (B : Nat -> Prop) (bx : List (Nat × Obj)) (d : List MvZ) (v0 v2 v4 v7 v22 v23 v24 : Value) (bl : Bool) : Act -> World -> Prop := fun a W => a.tmps.size = 179 /\ a.defers = [] /\ slot a.tmps 0 = v0 /\ slot a.tmps 2 = v2 /\ slot a.tmps 4 = v4 /\ slot a.tmps 7 = v7 /\ slot a.tmps 22 = v22 /\ slot a.tmps 23 = v23 /\ slot a.tmps 24 = v24 /\ slot a.tmps 74 = .bool bl /\ OfI J w B bx d W
def OfC (J : Hold) (w : World) (B : Nat -> Prop) (S Q P : Nat) (qo po : Obj) (lang : Int) (nz : Nat) (d : List MvZ) (v0 v2 v4 v7 v22 v23 v24 : Value) : Act -> World -> Prop := fun a W => a.tmps.size = 179 /\ a.defers = [] /\ slot a.tmps 0 = v0 /\ slot a.tmps 2 = v2 /\ slot a.tmps 4 = v4 /\ slot a.tmps 7 = v7 /\ slot a.tmps 8 = .pointer (some ⟨S, 0, none⟩) /\ slot a.tmps 22 = v22 /\ slot a.tmps 23 = v23 /\ slot a.tmps 24 = v24 /\ OfI J w B [(S, PlBox 0 ⟨⟨lang, false, true⟩, nz, false⟩), (Q, qo), (P, po)] d W
def OfD (J : Hold) (w : World) (B : Nat -> Prop) (bx : List (Nat × Obj)) (d : List MvZ) (v0 v2 v4 v7 v8 v9 v22 v23 v24 : Value) : Act -> World -> Prop := fun a W => a.tmps.size = 179 /\ a.defers = [] /\ slot a.tmps 0 = v0 /\ slot a.tmps 2 = v2 /\ slot a.tmps 4 = v4 /\ slot a.tmps 7 = v7 /\ slot a.tmps 8 = v8 /\ slot a.tmps 9 = v9 /\ slot a.tmps 22 = v22 /\ slot a.tmps 23 = v23 /\ slot a.tmps 24 = v24 /\ OfI J w B bx d W
def OfE (J : Hold) (w : World) (B : Nat -> Prop) (bx : List (Nat × Obj)) (d : List MvZ) (v0 v2 v4 v7 v8 v9 v22 v23 v24 : Value) : Act -> World -> Prop := fun a W => a.tmps.size = 179 /\ a.defers = [] /\ slot a.tmps 0 = v0 /\ slot a.tmps 2 = v2 /\ slot a.tmps 4 = v4 /\ slot a.tmps 7 = v7 /\ slot a.tmps 8 = v8 /\ slot a.tmps 9 = v9 /\ slot a.tmps 22 = v22 /\ slot a.tmps 23 = v23 /\ slot a.tmps 24 = v24 /\ OfI J w B bx d W
def OfG (J : Hold) (w : World) (B : Nat -> Prop) (bx : List (Nat × Obj)) (d : List MvZ) (v0 v2 v4 v10 v11 v12 v129 v130 v131 : Value) : Act -> World -> Prop := fun a W => a.tmps.size = 179 /\ a.defers = [] /\ slot a.tmps 0 = v0 /\ slot a.tmps 2 = v2 /\ slot a.tmps 4 = v4 /\ slot a.tmps 10 = v10 /\ slot a.tmps 11 = v11 /\ slot a.tmps 12 = v12 /\ slot a.tmps 129 = v129 /\ slot a.tmps 130 = v130 /\ slot a.tmps 131 = v131 /\ OfI J w B bx d W
theorem convD (i : Nat) (W : World) (B : Nat) (h : W.cell? ⟨B, 0, none⟩ = some (.int .u8 (48 + (i : Int)))) : (convert 23 9 (.slice (some ⟨B, 0, none⟩) 1 1)).run Tryz.prog W = .ok (.string (zq2d i)) W := by
  rw [run_convert_bytes_string (P := Tryz.prog) W 23 9 5 _ _ _ (by kernel_rfl) (by kernel_rfl) (by kernel_rfl)]
  have hd : zq2d i = [48 + (i : Int)].foldl (fun r n => r.push (UInt8.ofNat n.toNat)) ByteArray.empty := by
    have : (48 + (i : Int)).toNat = 48 + i := by omega
    simp only [List.foldl_cons, List.foldl_nil, this]
    rfl
  rw [hd]
  exact run_bytesToString (P := Tryz.prog) W ⟨B, 0, none⟩ 1 1 [48 + (i : Int)] (by go_simp)
theorem by1 {X : World} {g : Nat} {y : Int} {e : TypeId} (h : X.heap[g]? = some (.cells #[.int .u8 y] e)) (hy : 0 <= y /\ y < 256) : BysAt X (.slice (some ⟨g, 0, none⟩) 1 1) [y] :=
  ⟨(zq28 h).mono (fun _ _ => trivial), fun x hx => by simp at hx; subst hx; exact hy⟩
theorem cat2 {w w1 w2 : World} {base c : Nat} {e : TypeId} {a : Option Addr} {l1 l2 : List Int} {u1 u2 : Value} (h : w.ownsRow base e 1 (.slice a [l1, l2].flatten.length c) [l1, l2].flatten.length (byC [l1, l2].flatten)) (h1 : BysAt w1 u1 l1) (h2 : BysAt w2 u2 l2) : BysAt w (.slice a (l1.length + l2.length) c) (l1 ++ l2) := by
  have hf : [l1, l2].flatten = l1 ++ l2 := by simp
  rw [hf] at h
  rw [<- List.length_append]
  exact BysAt.of_own h (fun x hx => (List.mem_append.1 hx).elim (h1.2 x) (h2.2 x))
theorem cat3 {w w1 w2 w3 : World} {base c : Nat} {e : TypeId} {a : Option Addr} {l1 l2 l3 : List Int} {u1 u2 u3 : Value} (h : w.ownsRow base e 1 (.slice a [l1, l2, l3].flatten.length c) [l1, l2, l3].flatten.length (byC [l1, l2, l3].flatten)) (h1 : BysAt w1 u1 l1) (h2 : BysAt w2 u2 l2) (h3 : BysAt w3 u3 l3) : BysAt w (.slice a (l1.length + (l2.length + l3.length)) c) (l1 ++ (l2 ++ l3)) := by
  have hf : [l1, l2, l3].flatten = l1 ++ (l2 ++ l3) := by simp
  rw [hf] at h
  rw [<- List.length_append, <- List.length_append]
  exact BysAt.of_own h (fun x hx => (List.mem_append.1 hx).elim (h1.2 x) (fun hx => (List.mem_append.1 hx).elim (h2.2 x) (h3.2 x)))
theorem head_val {w0 : World} {V : TabV} {T : TabZ} (hT : TabIn w0 V T) (p : PlZ) : ∃ ha hc, BysAt w0 (.slice ha (headZ T p).length hc) (headZ T p) /\ (p.st.num = true -> V.e = .slice ha (headZ T p).length hc) /\ (p.st.num = false -> Value.slice ha (headZ T p).length hc = .slice none 0 0) := by
  cases hn : p.st.num with
  | true =>
    obtain ⟨ea, ec, he, _, _⟩ := hT.en.1.form
    have h1 : headZ T p = T.en := by unfold headZ; rw [if_pos hn]
    have h2 := hT.en
    rw [he] at h2
    exact ⟨ea, ec, by rw [h1]; exact h2, fun _ => by rw [h1]; exact he, fun h => by cases h⟩
  | false =>
    have h1 : headZ T p = [] := by unfold headZ; rw [if_neg (by rw [hn]; simp)]
    exact ⟨none, 0, by rw [h1]; exact BysAt.nil _, fun h => by (cases h), fun _ => by rw [h1]; rfl⟩
set_option maxHeartbeats 40000000 in
theorem zqba (V : TabV) (T : TabZ) (cv : Value) (R : Nat) (w0 : World) (hT : TabIn w0 V T) (hok : TabOk T) (hv : zq8 T = 0) (hR : w0.heap[R]? = some (RdBox V cv)) (p : PlZ) (hp : p.st.lang = 0 \/ p.st.lang = 1) (hpn : p.need <= 2) (kz : Int) (f : FuncId) (bs : Array Value) (J : Hold) (hK : Taker w0 T p f bs J) (B : Nat -> Prop) (w : World) (hJ : J [] B w) :
    Calls Tryz.prog 79 #[.pointer (some ⟨R, 0, none⟩), .agg #[.int .i64 kz, .int .i64 p.st.lang, .bool p.st.num, .bool p.st.word, .int .i64 (p.need : Nat), .bool p.sw], .func (.func f) #[] bs] w fun e w' => e = .returned (.tuple #[]) /\ ∃ B', J (zqa T p) B' w' /\ Turned B w w' /\ ∀ b, b < w.heap.size -> B' b -> B b := by
  have HS0 := hidep (OfI.start hJ)
  have ef := hK.ent
  have hw0 := (hK.low _ _ _ hJ).1.size
  have HK := hidep hK
  have HT := hidep hT
  have HR := hidep hR
  have HV := hidep (And.intro hok hv)
  obtain ⟨ra, rc, hrow, hrows, hrl, hrc⟩ := rules_row hT hp
  unfold maxLen at hrc
  obtain ⟨L, hL⟩ : ∃ L, L = T.rules p.st.lang := ⟨_, rfl⟩
  rw [<- hL] at hrow hrows hrl
  have HROW := hidep hrows
  have HHD := hidep (head_val hT p)
  have HDL := hidep (zq54 hv)
  have HSEE := hidep (fun (bx : List (Nat × Obj)) (d : List MvZ) (W : World) (h : OfI J w B bx d W) => rd8 (zq0 (h.low hK) hR))
  obtain ⟨⟨sl, sn, sw⟩, nd, sq⟩ := p
  simp only at hp hpn hrow hL
  have HMV := hidep (show T.rules sl = L from hL.symm)
  have HP := hidep hp
  obtain ⟨k0, hk0, hk2⟩ : ∃ k0 : Nat, sl = (k0 : Int) /\ k0 < 2 := by
    rcases hp with h | h
    · exact ⟨0, by simpa using h, by omega⟩
    · exact ⟨1, by simpa using h, by omega⟩
  have HRC := hidep (fun (W : World) (h : W.heap[R]? = some (RdBox V cv)) => show W.cell? ⟨R, k0, none⟩ = some (.slice ra L.length rc) from by
    obtain ⟨h0, h1, _⟩ := rd8 h
    rcases (by omega : k0 = 0 \/ k0 = 1) with rfl | rfl
    · rw [h0, <- hrow, if_pos (by omega)]
    · rw [h1, <- hrow, if_neg (by omega)])
  subst hk0
  have hkk : (k0 : Int) < 2 := by omega
  have hkp : (0 : Int) <= (k0 : Int) := by omega
  have HRLEN := hidep (And.intro hrl hrc)
  clear hJ hK hT hok hv hR hrow hrows hL hp hrl hrc
  go_enter Tryz.func79, Tryz.ntmps79
  go_upto_region 1 with (fail)
  obtain ⟨P, hPd⟩ : ∃ B, B = w.heap.size := ⟨_, rfl⟩
  refine zq9 (fun X => OfI J w B [(P, PlBox kz ⟨⟨(k0 : Int), sn, sw⟩, nd, sq⟩)] [] X) (by
    rw [hPd]
    exact HS0.out.add HK.out ((Below.refl _ _).alloc (Nat.le_refl _) _) (heap_alloc_new _ _)) ?_
  rintro X hX
  rw [<- hPd]
  have HX := hidep hX
  have HRR := hidep (fun (bx : List (Nat × Obj)) (d : List MvZ) (W : World) (h : OfI J w B bx d W) => zq0 (h.low HK.out) HR.out)
  clear hX HS0 hPd
  have HSEE1 := hidep (fun (W : World) (h : OfI J w B [(P, PlBox kz ⟨⟨(k0 : Int), sn, sw⟩, nd, sq⟩)] [] W) => And.intro (HRC.out _ (HRR.out _ _ _ h)) (pl6 (h.box (List.mem_cons_self ..))))
  simp only at HSEE1
  refine zq17 (OfA J w B [(P, PlBox kz ⟨⟨(k0 : Int), sn, sw⟩, nd, sq⟩)] [] (.pointer (some ⟨R, 0, none⟩)) (.func (.func f) #[] bs) (.pointer (some ⟨P, 0, none⟩)) (.slice ra L.length rc) (.int .i64 (L.length : Nat)) (.int .i64 0)) ?r1 ?_
  case r1 =>
    intro K' hMK
    refine wp_region_noPanic (wp_region_held_drew (S := (fun W => OfI J w B [(P, PlBox kz ⟨⟨(k0 : Int), sn, sw⟩, nd, sq⟩)] [] W)) (by kernel_rfl) ?hSz0 (fun hHeld => ?hRz0))
    case hSz0 => ((try dsimp only); (exact HX.out.below HK.out ((Below.refl _ _).drew)))
    refine tkC 0 rfl ?_
    refine tkC 1 rfl ?_
    refine tkC 2 rfl ?_
    refine tkB 3 rfl (.inl ⟨by kernel_rfl, fun w hSw => by (obtain ⟨hrc, p0, p1, p2, p3, p4, p5⟩ := HSEE1.out _ hSw); go_simp; first | done | with_reducible rfl⟩) ?_
    refine tkC 4 rfl ?_
    refine tkC 5 rfl ?_
    refine tkC 6 rfl ?_
    refine tkC 7 rfl ?_
    refine tkC 8 rfl ?_
    refine tkB 9 rfl (.inl ⟨by kernel_rfl, fun w hSw => by (obtain ⟨hrc, p0, p1, p2, p3, p4, p5⟩ := HSEE1.out _ hSw); go_simp; first | done | with_reducible rfl⟩) ?_
    refine tkC 10 rfl ?_
    refine tkC 11 rfl ?_
    refine wpAnyH_done (by kernel_rfl) ?_ _
    clear hHeld
    refine NoPanic.normal ?_
    dsimp only [Exit.then]
    (refine hMK _ _ ⟨?_, ?_, ?_, ?_, ?_, ?_, ?_, ?_, HX.out.below HK.out ((Below.refl _ _).drew)⟩ <;> kernel_rfl)
  rintro ⟨tm1, ds⟩ X1 ⟨hts, hds, e0, e2, e4, e22, e23, e24, hX1⟩
  simp only at hts hds e0 e2 e4 e22 e23 e24
  subst hds
  apply_assumption
  rw [zq38 tm1 [] hts, e0, e2, e4, e22, e23, e24]
  clear hts e0 e2 e4 e22 e23 e24
  clear HX HSEE1
  have HX1 := hidep hX1
  clear hX1
  go_upto_region 2 with (fail)
  refine wp_loop (LoopI 179 (fun tm ds wr => (slot tm 0) = .pointer (some ⟨R, 0, none⟩) /\ (slot tm 2) = .func (.func f) #[] bs /\ (slot tm 4) = .pointer (some ⟨P, 0, none⟩) /\ (slot tm 22) = .slice ra L.length rc /\ (slot tm 23) = .int .i64 (L.length : Nat) /\ ds = [] /\ ∃ i : Nat, i <= L.length /\ (slot tm 24) = .int .i64 (i : Nat) /\ OfI J w B [(P, PlBox kz ⟨⟨(k0 : Int), sn, sw⟩, nd, sq⟩)] ((L.take i).flatMap (zq18 T ⟨⟨(k0 : Int), sn, sw⟩, nd, sq⟩)) wr)) (fun a' wr => L.length - natI (a'.tmps.getD 24 undef)) ?nlStart ?nlRound
  case' nlStart => refine LoopI.mk rfl ?_
  case' nlRound => (rintro ⟨t, ds⟩ wr ⟨hts, hrel⟩; dsimp only at hts hrel; rw [zq38 t ds hts])
  case nlStart => exact ⟨rfl, rfl, rfl, rfl, rfl, rfl, 0, Nat.zero_le _, rfl, HX1.out⟩
  clear HX1
  obtain ⟨e0, e2, e4, e22, e23, hds, i, hi, e24, hI⟩ := hrel
  subst hds
  rw [e0, e2, e4, e22, e23, e24]
  clear e0 e2 e4 e22 e23 e24 hts
  by_cases hiL : i < L.length
  · have hii : (i : Int) < (L.length : Int) := by omega
    have hi0 : (0 : Int) <= (i : Int) := by omega
    have hwk : IntKind.i64.wrap ((i : Int) + 1) = (i : Int) + 1 := IntWalk.i64_in _ (by have := HRLEN.out; omega)
    obtain ⟨tail, htail⟩ := moves_rule T ⟨⟨(k0 : Int), sn, sw⟩, nd, sq⟩ HMV.out hiL
    have htake := moves_take T ⟨⟨(k0 : Int), sn, sw⟩, nd, sq⟩ hiL
    obtain ⟨rb, roff, ua, un, uc, rfl, hrb, hr0, hr1, hr2, hru⟩ := zq4e HROW.out hiL
    have hrok : 1 <= L[i].text.size /\ L[i].text.size <= 8 /\ L[i].cells.length <= 4 := by
      obtain ⟨k, hk, hk2⟩ := zqd1 (T := T) HP.out
      have h1 := zq6d HV.out.2 hk
      rw [HMV.out] at hk2
      exact h1 _ (hk2 ▸ List.getElem_mem hiL)
    have HLOW := hidep (hI.low HK.out)
    have hb := HLOW.out
    have g0 := (hb.cell (p := ⟨rb, roff + i * 3, none⟩) hrb).trans hr0
    have g1 := (hb.cell (p := ⟨rb, roff + i * 3 + 1, none⟩) hrb).trans hr1
    have g2 := (hb.cell (p := ⟨rb, roff + i * 3 + 2, none⟩) hrb).trans hr2
    have HRU := hidep hru
    obtain ⟨y, hy⟩ : ∃ y, y = L[i] := ⟨_, rfl⟩
    rw [<- hy] at g0 g1 htail htake hrok HRU
    have HTL := hidep htail
    have HTK := hidep htake
    have HI := hidep hI
    obtain ⟨ys, yw, yc⟩ := y
    simp only at g0 g1 hrok
    have hun : un = yc.length := by
      obtain ⟨_, _, e, _⟩ := HRU.out.1.form
      injection e
    subst hun
    clear hy htail htake hI hb hr0 hr1 hr2 hru hrb
    go_upto_region 4 with (fail)
    obtain ⟨Q, hQd⟩ : ∃ B, B = wr.heap.size := ⟨_, rfl⟩
    refine zq9 (fun X => OfI J w B [(Q, .cells #[.string ys, .int .i64 yw, .slice ua yc.length uc] 59), (P, PlBox kz ⟨⟨(k0 : Int), sn, sw⟩, nd, sq⟩)] ((L.take i).flatMap (zq18 T ⟨⟨(k0 : Int), sn, sw⟩, nd, sq⟩)) X /\ P ≠ Q) ⟨by
      rw [hQd]
      exact HI.out.add HK.out ((Below.refl _ _).alloc (Nat.le_refl _) _) (heap_alloc_new _ _), by
      have := lt_of_block (HI.out.box (List.mem_cons_self ..))
      omega⟩ ?_
    rintro X2 ⟨hX2, hPQ⟩
    rw [<- hQd]
    have HX2 := hidep hX2
    have HPQ := hidep hPQ
    clear hQd hPQ hX2 g0 g1 g2 HI HLOW
    have hq := HX2.out.box (List.mem_cons_self ..)
    have q0 : X2.cell? ⟨Q, 0, none⟩ = some (.string ys) := by simp [World.cell?, hq]
    have q1 : X2.cell? ⟨Q, 1, none⟩ = some (.int .i64 yw) := by simp [World.cell?, hq]
    have q2 : X2.cell? ⟨Q, 2, none⟩ = some (.slice ua yc.length uc) := by simp [World.cell?, hq]
    obtain ⟨p0, p1, p2, p3, p4, p5⟩ := pl6 (HX2.out.box (List.mem_cons_of_mem _ (List.mem_cons_self ..)))
    simp only at p1 p2 p3 p4 p5
    have HSM := hidep (fun W => smallC_any ys W (by omega))
    obtain ⟨RM, hRM⟩ : ∃ x, x = zq18 T ⟨⟨(k0 : Int), sn, sw⟩, nd, sq⟩ ⟨ys, yw, yc⟩ := ⟨_, rfl⟩
    rw [<- hRM] at HTL HTK
    have HRV := hidep (show RM = if zq5a ys = true then (if zq41 ⟨⟨(k0 : Int), sn, sw⟩, nd, sq⟩ yw = true then [] else
      [⟨headZ T ⟨⟨(k0 : Int), sn, sw⟩, nd, sq⟩ ++ yc, ys, false, ⟨⟨(k0 : Int), false, true⟩, needZ yw, false⟩⟩, ⟨headZ T ⟨⟨(k0 : Int), sn, sw⟩, nd, sq⟩ ++ (T.cp ++ yc), ys, true, ⟨⟨(k0 : Int), false, true⟩, needZ yw, false⟩⟩])
      else if nd = 2 then [] else [⟨yc, ys, false, ⟨⟨(k0 : Int), false, false⟩, 0, false⟩⟩] from by rw [hRM]; rfl)
    clear hRM
    obtain ⟨sm, hsm⟩ : ∃ x, x = zq5a ys := ⟨_, rfl⟩
    rw [<- hsm] at HSM HRV
    clear hq hsm
    have HQ := hidep (fun (bx : List (Nat × Obj)) (W : World) (h : W.heap[Q]? = some (.cells #[.string ys, .int .i64 yw, .slice ua yc.length uc] 59)) => show W.cell? ⟨Q, 0, none⟩ = some (.string ys) /\ W.cell? ⟨Q, 1, none⟩ = some (.int .i64 yw) /\ W.cell? ⟨Q, 2, none⟩ = some (.slice ua yc.length uc) from ⟨by simp [World.cell?, h], by simp [World.cell?, h], by simp [World.cell?, h]⟩)
    cases sm with
    | false =>
      have HR2 := hidep (HRV.out.trans (if_neg (by simp)))
      by_cases hn2 : nd = 2
      · have HR3 := hidep (HR2.out.trans (if_pos hn2))
        have hne : ((nd : Int) != 2) = false := by simp; omega
        have hne2 : (nd : Int) = 2 := by omega
        have HT3 := hidep (HTK.out.trans (by rw [HR3.out, List.append_nil]))
        clear hn2
        go_wp2_with (go_at_call 120; refine (HSM.out _).mono ?_; rintro e w3 ⟨rfl, rfl⟩)
        refine ⟨LoopI.mk rfl ⟨rfl, rfl, rfl, rfl, rfl, rfl, i + 1, by omega, by show Value.int _ _ = _; go_num, by rw [HT3.out]; exact HX2.out.drop (fun x hx => List.mem_cons_of_mem _ hx)⟩, ?_⟩
        show L.length - _ < L.length - _
        simp [natI]; omega
      · have HR3 := hidep (HR2.out.trans (if_neg hn2))
        have hne : ((nd : Int) != 2) = true := by simp; omega
        have hne2 : ¬ (nd : Int) = 2 := by omega
        have HCL := hidep (HX2.out.call HK.out (m := ⟨yc, ys, false, ⟨⟨(k0 : Int), false, false⟩, 0, false⟩⟩) (rest := tail) (by rw [HTL.out, HR3.out]; rfl) (HRU.out.below (HX2.out.low HK.out)))
        have HT3 := hidep (HTK.out.trans (by rw [HR3.out]))
        clear hn2
        go_wp2_with (first
          | (go_at_call 120; refine (HSM.out _).mono ?_; rintro e w3 ⟨rfl, rfl⟩)
          | (go_at_fn f; refine HCL.out.mono ?_; rintro e w3 ⟨rfl, h3⟩))
        refine ⟨LoopI.mk rfl ⟨rfl, rfl, rfl, rfl, rfl, rfl, i + 1, by omega, by show Value.int _ _ = _; go_num, by rw [HT3.out]; exact h3.drop (fun x hx => List.mem_cons_of_mem _ hx)⟩, ?_⟩
        show L.length - _ < L.length - _
        simp [natI]; omega
    | true =>
      have HR2 := hidep (HRV.out.trans (if_pos rfl))
      obtain ⟨bl, hbl⟩ : ∃ x, x = zq41 ⟨⟨(k0 : Int), sn, sw⟩, nd, sq⟩ yw := ⟨_, rfl⟩
      rw [<- hbl] at HR2
      have HBL := hidep hbl
      clear hbl
      go_upto_region 7 with (go_at_call 120; refine (HSM.out _).mono ?_; rintro e w3 ⟨rfl, rfl⟩)
      refine zq17 (OfB J w B [(Q, .cells #[.string ys, .int .i64 yw, .slice ua yc.length uc] 59), (P, PlBox kz ⟨⟨(k0 : Int), sn, sw⟩, nd, sq⟩)] ((L.take i).flatMap (zq18 T ⟨⟨(k0 : Int), sn, sw⟩, nd, sq⟩)) (.pointer (some ⟨R, 0, none⟩)) (.func (.func f) #[] bs) (.pointer (some ⟨P, 0, none⟩)) (.pointer (some ⟨Q, 0, none⟩)) (.slice (some ⟨rb, roff, none⟩) L.length rc) (.int .i64 (L.length : Nat)) (.int .i64 (i : Nat)) bl) ?r7 ?_
      case r7 =>
        intro K' hMK
        by_cases hn1 : nd = 1
        · have hne : ((nd : Int) == 1) = true := by simp [hn1]
          have hbl : bl = true := by rw [HBL.out]; simp [zq41, *]
          subst hbl
          clear hn1
          go_wp2
          (refine ⟨?_, ?_, ?_, ?_, ?_, ?_, ?_, ?_, ?_, ?_, HX2.out⟩ <;> kernel_rfl)
        have hne : ((nd : Int) == 1) = false := by simp; omega
        have hne2 : ¬ (nd : Int) = 1 := by omega
        cases sw with
        | true =>
          by_cases h1 : yw = 1
          · have h1b : (yw == 1) = true := by simp [h1]
            have hbl : bl = true := by rw [HBL.out]; simp [zq41, *]
            subst hbl
            clear h1
            go_wp2
            (refine ⟨?_, ?_, ?_, ?_, ?_, ?_, ?_, ?_, ?_, ?_, HX2.out⟩ <;> kernel_rfl)
          have h1b : (yw == 1) = false := by simp [h1]
          by_cases h2 : yw = 2
          · have h2b : (yw == 2) = true := by simp [h2]
            have hbl : bl = true := by rw [HBL.out]; simp [zq41, *]
            subst hbl
            clear h2
            go_wp2
            (refine ⟨?_, ?_, ?_, ?_, ?_, ?_, ?_, ?_, ?_, ?_, HX2.out⟩ <;> kernel_rfl)
          have h2b : (yw == 2) = false := by simp [h2]
          have hbl : bl = false := by rw [HBL.out]; simp [zq41, *]
          subst hbl
          go_wp2
          (refine ⟨?_, ?_, ?_, ?_, ?_, ?_, ?_, ?_, ?_, ?_, HX2.out⟩ <;> kernel_rfl)
        | false =>
          by_cases h3 : yw = 3
          · have h3b : (yw == 3) = true := by simp [h3]
            have hbl : bl = true := by rw [HBL.out]; simp [zq41, *]
            subst hbl
            clear h3
            go_wp2
            (refine ⟨?_, ?_, ?_, ?_, ?_, ?_, ?_, ?_, ?_, ?_, HX2.out⟩ <;> kernel_rfl)
          have h3b : (yw == 3) = false := by simp [h3]
          have hbl : bl = false := by rw [HBL.out]; simp [zq41, *]
          subst hbl
          go_wp2
          (refine ⟨?_, ?_, ?_, ?_, ?_, ?_, ?_, ?_, ?_, ?_, HX2.out⟩ <;> kernel_rfl)
      rintro ⟨tm2, ds⟩ W2 ⟨hts, hds, e0, e2, e4, e7, e22, e23, e24, e74, hW2⟩
      simp only at hts hds e0 e2 e4 e7 e22 e23 e24 e74
      subst hds
      apply_assumption
      rw [zq38 tm2 [] hts, e0, e2, e4, e7, e22, e23, e24, e74]
      clear hts e0 e2 e4 e7 e22 e23 e24 e74
      have HW2 := hidep hW2
      clear hW2 q0 q1 q2 p0 p1 p2 p3 p4 p5 HX2
      cases bl with
      | true =>
        have HR3 := hidep (HR2.out.trans (if_pos rfl))
        have HT3 := hidep (HTK.out.trans (by rw [HR3.out, List.append_nil]))
        go_wp2
        refine ⟨LoopI.mk rfl ⟨rfl, rfl, rfl, rfl, rfl, rfl, i + 1, by omega, by show Value.int _ _ = _; go_num, by rw [HT3.out]; exact HW2.out.drop (fun x hx => List.mem_cons_of_mem _ hx)⟩, ?_⟩
        show L.length - _ < L.length - _
        simp [natI]; omega
      | false =>
        have HR3 := hidep (HR2.out.trans (if_neg (by simp)))
        clear HBL
        have hq := HQ.out [] _ (HW2.out.box (List.mem_cons_self ..))
        obtain ⟨q0, q1, q2⟩ := hq
        obtain ⟨p0, p1, p2, p3, p4, p5⟩ := pl6 (HW2.out.box (List.mem_cons_of_mem _ (List.mem_cons_self ..)))
        simp only at p1 p2 p3 p4 p5
        go_upto_region 9 with (fail)
        obtain ⟨S, hS⟩ : ∃ B, B = W2.heap.size := ⟨_, rfl⟩
        refine zq9 (fun X => OfI J w B [(S, PlBox 0 ⟨⟨(k0 : Int), false, true⟩, 0, false⟩), (Q, (.cells #[.string ys, .int .i64 yw, .slice ua yc.length uc] 59)), (P, (PlBox kz ⟨⟨(k0 : Int), sn, sw⟩, nd, sq⟩))] ((L.take i).flatMap (zq18 T ⟨⟨(k0 : Int), sn, sw⟩, nd, sq⟩)) X /\ S ≠ Q /\ S ≠ P) ⟨by
          rw [hS]
          exact HW2.out.add HK.out ((Below.refl _ _).alloc (Nat.le_refl _) _) (heap_alloc_new _ _), by
          have h1 := lt_of_block (HW2.out.box (List.mem_cons_self ..))
          have h2 := lt_of_block (HW2.out.box (List.mem_cons_of_mem _ (List.mem_cons_self ..)))
          omega⟩ ?_
        rintro X3 ⟨hX3, hSQ, hSP⟩
        rw [<- hS]
        have HX3 := hidep hX3
        have HSQ := hidep (And.intro hSQ hSP)
        clear hS hX3 hSQ hSP q0 q1 q2 p0 p1 p2 p3 p4 p5 HW2
        have hq := HQ.out [] _ (HX3.out.box (List.mem_cons_of_mem _ (List.mem_cons_self ..)))
        obtain ⟨q0, q1, q2⟩ := hq
        go_upto_block 2 with (fail)
        obtain ⟨nz, hnz⟩ : ∃ x, x = needZ yw := ⟨_, rfl⟩
        rw [<- hnz] at HR3
        have HNZ := hidep hnz
        clear hnz
        refine zq17 (OfC J w B S Q P (.cells #[.string ys, .int .i64 yw, .slice ua yc.length uc] 59) (PlBox kz ⟨⟨(k0 : Int), sn, sw⟩, nd, sq⟩) (k0 : Int) nz ((L.take i).flatMap (zq18 T ⟨⟨(k0 : Int), sn, sw⟩, nd, sq⟩)) (.pointer (some ⟨R, 0, none⟩)) (.func (.func f) #[] bs) (.pointer (some ⟨P, 0, none⟩)) (.pointer (some ⟨Q, 0, none⟩)) (.slice (some ⟨rb, roff, none⟩) L.length rc) (.int .i64 (L.length : Nat)) (.int .i64 (i : Nat))) ?nd ?_
        case nd =>
          intro K' hMK
          have hbs := HX3.out.box (List.mem_cons_self ..)
          have HSET := hidep (fun v => HX3.out.set HK.out hw0 (by intro x hx; rcases List.mem_cons.1 hx with rfl | hx; exact HSQ.out.1.symm; rcases List.mem_cons.1 hx with rfl | hx; exact HSQ.out.2.symm; cases hx) 4 v)
          have hfz : X3.frozen? ⟨S, 4, none⟩ = false := zq31 hbs 4
          have hc4 : X3.cell? ⟨S, 4, none⟩ = some (.int .i64 ((0 : Nat) : Int)) := (pl6 hbs).2.2.2.2.1
          by_cases h1 : yw = 1
          · have h1b : (yw == 1) = true := by simp [h1]
            have hn : nz = 1 := by rw [HNZ.out]; simp [needZ, h1]
            subst hn
            clear h1
            go_wp2
            (refine ⟨?_, ?_, ?_, ?_, ?_, ?_, ?_, ?_, ?_, ?_, HSET.out (.int .i64 1)⟩ <;> kernel_rfl)
          have h1b : (yw == 1) = false := by simp [h1]
          by_cases h2 : yw = 2
          · have h2b : (yw == 2) = true := by simp [h2]
            have hn : nz = 2 := by rw [HNZ.out]; simp [needZ, h2]
            subst hn
            clear h2
            go_wp2
            (refine ⟨?_, ?_, ?_, ?_, ?_, ?_, ?_, ?_, ?_, ?_, HSET.out (.int .i64 2)⟩ <;> kernel_rfl)
          have h2b : (yw == 2) = false := by simp [h2]
          have hn : nz = 0 := by rw [HNZ.out]; simp [needZ, h1, h2]
          subst hn
          go_wp2
          (refine ⟨?_, ?_, ?_, ?_, ?_, ?_, ?_, ?_, ?_, ?_, HX3.out⟩ <;> kernel_rfl)
        rintro ⟨tm3, ds⟩ W3 ⟨hts, hds, e0, e2, e4, e7, e8, e22, e23, e24, hW3⟩
        simp only at hts hds e0 e2 e4 e7 e8 e22 e23 e24
        subst hds
        rw [zq38 tm3 [] hts, e0, e2, e4, e7, e8, e22, e23, e24]
        clear hts e0 e2 e4 e7 e8 e22 e23 e24
        have HW3 := hidep hW3
        obtain ⟨ha, hc, hhb, hh1, hh0⟩ := HHD.out
        obtain ⟨hd, hhd⟩ : ∃ x, x = headZ T ⟨⟨(k0 : Int), sn, sw⟩, nd, sq⟩ := ⟨_, rfl⟩
        rw [<- hhd] at hhb hh1 hh0 HR3
        have hhl : hd.length <= 4 := by rw [hhd]; unfold headZ; split <;> (try simp only [List.length_nil]) <;> (have := HDL.out; omega)
        have HHB := hidep hhb
        clear hhd hW3 hhb q0 q1 q2 HNZ
        apply_assumption
        go_upto_region 14 with (fail)
        refine wp_region_lit ?_
        refine zq5e rfl (v := .slice none 0 0) (w' := W3) (by kernel_rfl) ?_
        refine wpList_nil ?_
        dsimp only [Exit.then]
        apply_assumption
        refine wp_seq ?_
        refine zq17 (OfD J w B [(S, (PlBox 0 ⟨⟨(k0 : Int), false, true⟩, nz, false⟩)), (Q, (.cells #[.string ys, .int .i64 yw, .slice ua yc.length uc] 59)), (P, (PlBox kz ⟨⟨(k0 : Int), sn, sw⟩, nd, sq⟩))] ((L.take i).flatMap (zq18 T ⟨⟨(k0 : Int), sn, sw⟩, nd, sq⟩)) (.pointer (some ⟨R, 0, none⟩)) (.func (.func f) #[] bs) (.pointer (some ⟨P, 0, none⟩)) (.pointer (some ⟨Q, 0, none⟩)) (.pointer (some ⟨S, 0, none⟩)) (.slice ha hd.length hc) (.slice (some ⟨rb, roff, none⟩) L.length rc) (.int .i64 (L.length : Nat)) (.int .i64 (i : Nat))) ?hd ?_
        case hd =>
          intro K' hMK
          obtain ⟨p0, p1, p2, p3, p4, p5⟩ := pl6 (HW3.out.box (List.mem_cons_of_mem _ (List.mem_cons_of_mem _ (List.mem_cons_self ..))))
          simp only at p1 p2 p3 p4 p5
          cases sn with
          | true =>
            have hq5 := (HSEE.out _ _ _ HW3.out).2.2.2.2.2.1
            rw [hh1 rfl] at hq5
            go_wp2
            (refine ⟨?_, ?_, ?_, ?_, ?_, ?_, ?_, ?_, ?_, ?_, ?_, HW3.out⟩ <;> kernel_rfl)
          | false =>
            rw [hh0 rfl] at hMK
            go_wp2
            (refine ⟨?_, ?_, ?_, ?_, ?_, ?_, ?_, ?_, ?_, ?_, ?_, HW3.out⟩ <;> kernel_rfl)
        rintro ⟨tm4, ds⟩ W4 ⟨hts, hds, e0, e2, e4, e7, e8, e9, e22, e23, e24, hW4⟩
        simp only at hts hds e0 e2 e4 e7 e8 e9 e22 e23 e24
        subst hds
        rw [zq38 tm4 [] hts, e0, e2, e4, e7, e8, e9, e22, e23, e24]
        clear hts e0 e2 e4 e7 e8 e9 e22 e23 e24
        have HW4 := hidep hW4
        clear hW4 HW3 hh1 hh0
        obtain ⟨pa, pc, hpa, _, _⟩ := HT.out.cp.1.form
        have HPA := hidep hpa
        have HCPB := hidep (show BysAt w0 (.slice pa T.cp.length pc) T.cp from by rw [<- hpa]; exact HT.out.cp)
        have hcpl : T.cp.length <= 4 := by have := HDL.out; omega
        have HSE2 := hidep (fun (d : List MvZ) (W : World) (h : OfI J w B [(S, (PlBox 0 ⟨⟨(k0 : Int), false, true⟩, nz, false⟩)), (Q, (.cells #[.string ys, .int .i64 yw, .slice ua yc.length uc] 59)), (P, (PlBox kz ⟨⟨(k0 : Int), sn, sw⟩, nd, sq⟩))] d W) => And.intro (HQ.out [] _ (h.box (List.mem_cons_of_mem _ (List.mem_cons_self ..)))) (And.intro (pl6 (h.box (List.mem_cons_self ..))) (show W.cell? ⟨R, 3, none⟩ = some (.slice pa T.cp.length pc) from by rw [(HSEE.out _ _ _ h).2.2.2.1, HPA.out])))
        have HM1 := hidep (show zqa T ⟨⟨(k0 : Int), sn, sw⟩, nd, sq⟩ = ((L.take i).flatMap (zq18 T ⟨⟨(k0 : Int), sn, sw⟩, nd, sq⟩)) ++ ⟨hd ++ yc, ys, false, ⟨⟨(k0 : Int), false, true⟩, nz, false⟩⟩ :: ([⟨hd ++ (T.cp ++ yc), ys, true, ⟨⟨(k0 : Int), false, true⟩, nz, false⟩⟩] ++ tail) from by rw [HTL.out, HR3.out]; rfl)
        have HM2 := hidep (show zqa T ⟨⟨(k0 : Int), sn, sw⟩, nd, sq⟩ = (((L.take i).flatMap (zq18 T ⟨⟨(k0 : Int), sn, sw⟩, nd, sq⟩)) ++ [⟨hd ++ yc, ys, false, ⟨⟨(k0 : Int), false, true⟩, nz, false⟩⟩]) ++ ⟨hd ++ (T.cp ++ yc), ys, true, ⟨⟨(k0 : Int), false, true⟩, nz, false⟩⟩ :: tail from by rw [HTL.out, HR3.out]; simp)
        have HT3 := hidep (HTK.out.trans (by rw [HR3.out]))
        clear hpa
        go_upto_region 17 with (fail)
        refine zq17 (OfE J w B [(S, (PlBox 0 ⟨⟨(k0 : Int), false, true⟩, nz, false⟩)), (Q, (.cells #[.string ys, .int .i64 yw, .slice ua yc.length uc] 59)), (P, (PlBox kz ⟨⟨(k0 : Int), sn, sw⟩, nd, sq⟩))] (((L.take i).flatMap (zq18 T ⟨⟨(k0 : Int), sn, sw⟩, nd, sq⟩)) ++ [⟨hd ++ yc, ys, false, ⟨⟨(k0 : Int), false, true⟩, nz, false⟩⟩]) (.pointer (some ⟨R, 0, none⟩)) (.func (.func f) #[] bs) (.pointer (some ⟨P, 0, none⟩)) (.pointer (some ⟨Q, 0, none⟩)) (.pointer (some ⟨S, 0, none⟩)) (.slice ha hd.length hc) (.slice (some ⟨rb, roff, none⟩) L.length rc) (.int .i64 (L.length : Nat)) (.int .i64 (i : Nat))) ?r17 ?_
        case r17 =>
          intro K' hMK
          refine wp_region_noPanic (wp_region_held_drew (S := (fun W => ∃ d, OfI J w B [(S, (PlBox 0 ⟨⟨(k0 : Int), false, true⟩, nz, false⟩)), (Q, (.cells #[.string ys, .int .i64 yw, .slice ua yc.length uc] 59)), (P, (PlBox kz ⟨⟨(k0 : Int), sn, sw⟩, nd, sq⟩))] d W)) (by kernel_rfl) ?hSz1 (fun hHeld => ?hRz1))
          case hSz1 => ((try dsimp only); (exact ⟨_, HW4.out.below HK.out ((Below.refl _ _).drew)⟩))
          refine tkC 0 rfl ?_
          refine tkC 1 rfl ?_
          refine tkC 2 rfl ?_
          refine tkB 3 rfl (.inl ⟨by kernel_rfl, fun w hSw => by (obtain ⟨⟨q0, q1, q2⟩, ⟨s0, s1, s2, s3, s4, s5⟩, c3⟩ := HSE2.out _ _ hSw.choose_spec; simp only at s1 s2 s3 s4 s5); go_simp; first | done | with_reducible rfl⟩) ?_
          refine tkC 6 rfl ?_
          refine tkB 7 rfl (.inl ⟨by kernel_rfl, fun w hSw => by (obtain ⟨⟨q0, q1, q2⟩, ⟨s0, s1, s2, s3, s4, s5⟩, c3⟩ := HSE2.out _ _ hSw.choose_spec; simp only at s1 s2 s3 s4 s5); go_simp; first | done | with_reducible rfl⟩) ?_
          refine tkB 8 rfl (.inl ⟨by kernel_rfl, fun w hSw => by (obtain ⟨⟨q0, q1, q2⟩, ⟨s0, s1, s2, s3, s4, s5⟩, c3⟩ := HSE2.out _ _ hSw.choose_spec; simp only at s1 s2 s3 s4 s5); go_simp; first | done | with_reducible rfl⟩) ?_
          refine wpAnyH_ready (rs := [4]) (by kernel_rfl) (by simp) (AllReadyH.cons rfl (fun K hK => ?hcz2) AllReadyH.nil)
          go_simp
          ((first | refine zq7 (fun X5 hBX hL => ?_) | refine zq3 (fun X5 hBX hL => ?_)); have hb5 : Below W4.heap.size W4 X5 := (by first | exact hBX | exact ((Below.refl _ _).drew).trans hBX); have hk := HW4.out.below HK.out hb5; (try dsimp only))
          refine hK.out _ _ (by (try dsimp only); (exact ⟨_, hk⟩)) ?_
          clear hHeld hK; intro hHeld
          refine wpAnyH_ready (rs := [5]) (by kernel_rfl) (by simp) (AllReadyH.cons rfl (fun K hK => ?hcz3) AllReadyH.nil)
          go_simp
          (go_at_call 92; refine (zq25 _ [hd, yc] X5 (zq55 hL (HHB.out.below (hk.low HK.out)) (HRU.out.below (hk.low HK.out))) (by simp [zq2b]; omega)).mono ?_; rintro e' w7 ⟨v7, rfl, hown7, hb7⟩; obtain ⟨a7, c7, rfl, _, _⟩ := (Rd.of_own hown7).form; have hk := hk.below HK.out hb7; have hu7 := cat2 hown7 HHB.out HRU.out; (try dsimp only))
          refine hK.out _ _ (by (try dsimp only); (exact ⟨_, hk⟩)) ?_
          clear hHeld hK; intro hHeld
          refine wpAnyH_ready (rs := [9]) (by kernel_rfl) (by simp) (AllReadyH.cons rfl (fun K hK => ?hcz4) AllReadyH.nil)
          go_simp
          (go_at_fn f; refine (hk.call HK.out (m := ⟨hd ++ yc, ys, false, ⟨⟨(k0 : Int), false, true⟩, nz, false⟩⟩) HM1.out hu7).mono ?_; rintro e' w8 ⟨rfl, hk8⟩; have hk := hk8; (try dsimp only))
          refine hK.out _ _ (by (try dsimp only); (exact ⟨_, hk⟩)) ?_
          clear hHeld hK; intro hHeld
          refine wpAnyH_done (by kernel_rfl) ?_ _
          clear hHeld
          refine NoPanic.normal ?_
          dsimp only [Exit.then]
          (refine hMK _ _ ⟨?_, ?_, ?_, ?_, ?_, ?_, ?_, ?_, ?_, ?_, ?_, hk⟩ <;> kernel_rfl)
        rintro ⟨tm5, ds⟩ W5 ⟨hts, hds, e0, e2, e4, e7, e8, e9, e22, e23, e24, hW5⟩
        simp only at hts hds e0 e2 e4 e7 e8 e9 e22 e23 e24
        subst hds
        apply_assumption
        rw [zq38 tm5 [] hts, e0, e2, e4, e7, e8, e9, e22, e23, e24]
        clear hts e0 e2 e4 e7 e8 e9 e22 e23 e24
        have HW5 := hidep hW5
        clear hW5 HW4
        go_upto_region 18 with (fail)
        refine zqad (OfE J w B [(S, (PlBox 0 ⟨⟨(k0 : Int), false, true⟩, nz, false⟩)), (Q, (.cells #[.string ys, .int .i64 yw, .slice ua yc.length uc] 59)), (P, (PlBox kz ⟨⟨(k0 : Int), sn, sw⟩, nd, sq⟩))] ((((L.take i).flatMap (zq18 T ⟨⟨(k0 : Int), sn, sw⟩, nd, sq⟩)) ++ [⟨hd ++ yc, ys, false, ⟨⟨(k0 : Int), false, true⟩, nz, false⟩⟩]) ++ [⟨hd ++ (T.cp ++ yc), ys, true, ⟨⟨(k0 : Int), false, true⟩, nz, false⟩⟩]) (.pointer (some ⟨R, 0, none⟩)) (.func (.func f) #[] bs) (.pointer (some ⟨P, 0, none⟩)) (.pointer (some ⟨Q, 0, none⟩)) (.pointer (some ⟨S, 0, none⟩)) (.slice ha hd.length hc) (.slice (some ⟨rb, roff, none⟩) L.length rc) (.int .i64 (L.length : Nat)) (.int .i64 (i : Nat))) ?r18 ?_
        case r18 =>
          intro Q2 hMK
          refine wp_region_noPanic (wp_region_held_drew (S := (fun W => ∃ d, OfI J w B [(S, (PlBox 0 ⟨⟨(k0 : Int), false, true⟩, nz, false⟩)), (Q, (.cells #[.string ys, .int .i64 yw, .slice ua yc.length uc] 59)), (P, (PlBox kz ⟨⟨(k0 : Int), sn, sw⟩, nd, sq⟩))] d W)) (by kernel_rfl) ?hSz5 (fun hHeld => ?hRz5))
          case hSz5 => ((try dsimp only); (exact ⟨_, HW5.out.below HK.out ((Below.refl _ _).drew)⟩))
          refine tkC 0 rfl ?_
          refine tkC 1 rfl ?_
          refine tkC 2 rfl ?_
          refine tkC 3 rfl ?_
          refine tkC 4 rfl ?_
          refine tkC 5 rfl ?_
          refine tkB 6 rfl (.inl ⟨by kernel_rfl, fun w hSw => by (obtain ⟨⟨q0, q1, q2⟩, ⟨s0, s1, s2, s3, s4, s5⟩, c3⟩ := HSE2.out _ _ hSw.choose_spec; simp only at s1 s2 s3 s4 s5); go_simp; first | done | with_reducible rfl⟩) ?_
          refine tkC 7 rfl ?_
          refine tkB 8 rfl (.inl ⟨by kernel_rfl, fun w hSw => by (obtain ⟨⟨q0, q1, q2⟩, ⟨s0, s1, s2, s3, s4, s5⟩, c3⟩ := HSE2.out _ _ hSw.choose_spec; simp only at s1 s2 s3 s4 s5); go_simp; first | done | with_reducible rfl⟩) ?_
          refine tkC 11 rfl ?_
          refine tkB 12 rfl (.inl ⟨by kernel_rfl, fun w hSw => by (obtain ⟨⟨q0, q1, q2⟩, ⟨s0, s1, s2, s3, s4, s5⟩, c3⟩ := HSE2.out _ _ hSw.choose_spec; simp only at s1 s2 s3 s4 s5); go_simp; first | done | with_reducible rfl⟩) ?_
          refine tkB 13 rfl (.inl ⟨by kernel_rfl, fun w hSw => by (obtain ⟨⟨q0, q1, q2⟩, ⟨s0, s1, s2, s3, s4, s5⟩, c3⟩ := HSE2.out _ _ hSw.choose_spec; simp only at s1 s2 s3 s4 s5); go_simp; first | done | with_reducible rfl⟩) ?_
          refine wpAnyH_ready (rs := [9]) (by kernel_rfl) (by simp) (AllReadyH.cons rfl (fun K hK => ?hcz6) AllReadyH.nil)
          go_simp
          ((first | refine zq7 (fun X5 hBX hL => ?_) | refine zq3 (fun X5 hBX hL => ?_)); have hb5 : Below W5.heap.size W5 X5 := (by first | exact hBX | exact ((Below.refl _ _).drew).trans hBX); have hk := HW5.out.below HK.out hb5; (try dsimp only))
          refine hK.out _ _ (by (try dsimp only); (exact ⟨_, hk⟩)) ?_
          clear hHeld hK; intro hHeld
          refine wpAnyH_ready (rs := [10]) (by kernel_rfl) (by simp) (AllReadyH.cons rfl (fun K hK => ?hcz7) AllReadyH.nil)
          go_simp
          (go_at_call 92; refine (zq25 _ [hd, T.cp, yc] X5 (bysss3 hL (HHB.out.below (hk.low HK.out)) (HCPB.out.below (hk.low HK.out)) (HRU.out.below (hk.low HK.out))) (by simp [zq2b]; omega)).mono ?_; rintro e' w7 ⟨v7, rfl, hown7, hb7⟩; obtain ⟨a7, c7, rfl, _, _⟩ := (Rd.of_own hown7).form; have hk := hk.below HK.out hb7; have hu7 := cat3 hown7 HHB.out HCPB.out HRU.out; (try dsimp only))
          refine hK.out _ _ (by (try dsimp only); (exact ⟨_, hk⟩)) ?_
          clear hHeld hK; intro hHeld
          refine wpAnyH_ready (rs := [14]) (by kernel_rfl) (by simp) (AllReadyH.cons rfl (fun K hK => ?hcz8) AllReadyH.nil)
          go_simp
          (go_at_fn f; refine (hk.call HK.out (m := ⟨hd ++ (T.cp ++ yc), ys, true, ⟨⟨(k0 : Int), false, true⟩, nz, false⟩⟩) HM2.out hu7).mono ?_; rintro e' w8 ⟨rfl, hk8⟩; have hk := hk8; (try dsimp only))
          refine hK.out _ _ (by (try dsimp only); (exact ⟨_, hk⟩)) ?_
          clear hHeld hK; intro hHeld
          refine wpAnyH_done (by kernel_rfl) ?_ _
          clear hHeld
          refine NoPanic.normal ?_
          (refine hMK _ _ ⟨?_, ?_, ?_, ?_, ?_, ?_, ?_, ?_, ?_, ?_, ?_, hk⟩ <;> kernel_rfl)
        rintro ⟨tm6, ds⟩ W6 ⟨hts, hds, e0, e2, e4, e7, e8, e9, e22, e23, e24, hW6⟩
        simp only at hts hds e0 e2 e4 e7 e8 e9 e22 e23 e24
        subst hds
        (dsimp only [Exit.inBlock, Exit.then]; apply_assumption)
        rw [zq38 tm6 [] hts, e0, e2, e4, e7, e8, e9, e22, e23, e24]
        clear hts e0 e2 e4 e7 e8 e9 e22 e23 e24
        have HW6 := hidep hW6
        clear hW6 HW5
        go_wp2
        refine ⟨LoopI.mk rfl ⟨rfl, rfl, rfl, rfl, rfl, rfl, i + 1, by omega, by show Value.int _ _ = _; go_num, by rw [HT3.out, show ([⟨hd ++ yc, ys, false, ⟨⟨(k0 : Int), false, true⟩, nz, false⟩⟩, ⟨hd ++ (T.cp ++ yc), ys, true, ⟨⟨(k0 : Int), false, true⟩, nz, false⟩⟩] : List MvZ) = [⟨hd ++ yc, ys, false, ⟨⟨(k0 : Int), false, true⟩, nz, false⟩⟩] ++ [⟨hd ++ (T.cp ++ yc), ys, true, ⟨⟨(k0 : Int), false, true⟩, nz, false⟩⟩] from rfl, <- List.append_assoc]; exact HW6.out.drop (fun x hx => List.mem_cons_of_mem _ (List.mem_cons_of_mem _ hx))⟩, ?_⟩
        show L.length - _ < L.length - _
        simp [natI]; omega
  · have hii : ¬ (i : Int) < (L.length : Int) := by omega
    have hie : i = L.length := by omega
    obtain ⟨dA, hdA⟩ : ∃ x, x = L.flatMap (zq18 T ⟨⟨(k0 : Int), sn, sw⟩, nd, sq⟩) := ⟨_, rfl⟩
    have hI2 : OfI J w B [(P, PlBox kz ⟨⟨(k0 : Int), sn, sw⟩, nd, sq⟩)] dA wr := by
      rw [hdA]
      rw [hie, List.take_length] at hI
      exact hI
    have HI := hidep hI2
    have HDA := hidep hdA
    obtain ⟨p0, p1, p2, p3, p4, p5⟩ := pl6 (hI2.box (List.mem_cons_self ..))
    simp only at p1 p2 p3 p4 p5
    clear hI hI2 hdA hie hi
    by_cases hn2 : nd = 2
    · have hne : ((nd : Int) == 2) = true := by simp [hn2]
      have HE := hidep (show zqa T ⟨⟨(k0 : Int), sn, sw⟩, nd, sq⟩ = dA from by
        unfold zqa
        rw [if_pos hn2, List.append_nil, HDA.out]
        show List.flatMap _ (T.rules (k0 : Int)) = _
        rw [HMV.out])
      clear hn2
      go_wp2
      refine bodyPost_ret (results_none rfl _ _ _) rfl ?_
      rw [HE.out]
      exact ⟨rfl, HI.out.done⟩
    · have hne : ((nd : Int) == 2) = false := beq_false_of_ne (by omega)
      have hne2 : ¬ (nd : Int) = 2 := by omega
      have HDIG := hidep (fun (k : Nat) (h : k < T.dg.length) => moves_dig T ⟨⟨(k0 : Int), sn, sw⟩, nd, sq⟩ hn2 h)
      have HSWI := hidep (moves_sw T ⟨⟨(k0 : Int), sn, sw⟩, nd, sq⟩ hn2)
      have HDTK := hidep (fun (k : Nat) (h : k < T.dg.length) => digMvs_take T ⟨⟨(k0 : Int), sn, sw⟩, nd, sq⟩ h)
      simp only [HMV.out] at HDIG HSWI
      rw [<- HDA.out] at HSWI
      obtain ⟨da, dc, hda, hdl, hdm⟩ := HT.out.dg.1.form
      unfold maxLen at hdm
      have HDG := hidep (show BysAt w0 (.slice da T.dg.length dc) T.dg from by rw [<- hda]; exact HT.out.dg)
      have hq2 := (HSEE.out _ _ _ HI.out).2.2.1
      rw [hda] at hq2
      have HDN := hidep (show T.dg.length = 10 from HDL.out.1)
      have HDC := hidep hda
      clear hn2 hda
      obtain ⟨na, nc, hna, _, _⟩ := HT.out.nm.1.form
      have HNB := hidep (show BysAt w0 (.slice na T.nm.length nc) T.nm from by rw [<- hna]; exact HT.out.nm)
      have HNC := hidep hna
      have hnl : T.nm.length <= 4 := by have := HDL.out; omega
      have HS6 := hidep (fun (d : List MvZ) (W : World) (h : OfI J w B [(P, (PlBox kz ⟨⟨(k0 : Int), sn, sw⟩, nd, sq⟩))] d W) => And.intro (pl6 (h.box (List.mem_cons_self ..))) (And.intro (show W.cell? ⟨R, 2, none⟩ = some (.slice da T.dg.length dc) from by rw [(HSEE.out _ _ _ h).2.2.1, HDC.out]) (show W.cell? ⟨R, 4, none⟩ = some (.slice na T.nm.length nc) from by rw [(HSEE.out _ _ _ h).2.2.2.2.1, HNC.out])))
      clear hna
      obtain ⟨hx, hhx⟩ : ∃ x, x = (if sn = true then [] else T.nm) := ⟨_, rfl⟩
      have hhl : hx.length <= 4 := by rw [hhx]; split <;> (try simp only [List.length_nil]) <;> omega
      have hhv : ∃ xa xc, BysAt w0 (.slice xa hx.length xc) hx /\ (sn = false -> (Value.slice na T.nm.length nc) = .slice xa hx.length xc) /\ (sn = true -> Value.slice xa hx.length xc = .slice none 0 0) := by
        cases sn with
        | true => exact ⟨none, 0, by rw [hhx]; exact BysAt.nil _, fun h => by (cases h), fun _ => by rw [hhx]; rfl⟩
        | false => exact ⟨na, nc, by rw [hhx]; exact HNB.out, fun _ => by rw [hhx]; rfl, fun h => by cases h⟩
      obtain ⟨xa, xc, hxb, hx0, hx1⟩ := hhv
      have HXB := hidep hxb
      have HHX := hidep hhx
      have HX01 := hidep (And.intro hx0 hx1)
      clear hxb hx0 hx1 hhx
      go_upto_region 22 with (fail)
      rw [HDN.out] at hdl
      refine wp_loop (LoopI 179 (fun tm ds wr => (slot tm 0) = .pointer (some ⟨R, 0, none⟩) /\ (slot tm 2) = .func (.func f) #[] bs /\ (slot tm 4) = .pointer (some ⟨P, 0, none⟩) /\ (slot tm 129) = .slice da T.dg.length dc /\ (slot tm 130) = .int .i64 (T.dg.length : Nat) /\ ds = [] /\ ∃ i : Nat, i <= T.dg.length /\ (slot tm 131) = .int .i64 (i : Nat) /\ OfI J w B [(P, (PlBox kz ⟨⟨(k0 : Int), sn, sw⟩, nd, sq⟩))] (dA ++ (zq26 T ⟨⟨(k0 : Int), sn, sw⟩, nd, sq⟩).take i) wr)) (fun a' wr => T.dg.length - natI (a'.tmps.getD 131 undef)) ?dlStart ?dlRound
      case' dlStart => refine LoopI.mk rfl ?_
      case' dlRound => (rintro ⟨t, ds⟩ wr ⟨hts, hrel⟩; dsimp only at hts hrel; rw [zq38 t ds hts])
      case dlStart => exact ⟨rfl, rfl, rfl, rfl, rfl, rfl, 0, Nat.zero_le _, rfl, by rw [List.take_zero, List.append_nil]; exact HI.out⟩
      clear HI p0 p1 p2 p3 p4 p5 hq2
      obtain ⟨e0, e2, e4, e129, e130, hds, i, hi, e131, hI⟩ := hrel
      subst hds
      rw [e0, e2, e4, e129, e130, e131]
      clear e0 e2 e4 e129 e130 e131 hts
      have HI := hidep hI
      have hd10 := HDN.out
      by_cases hid : i < T.dg.length
      · have hii : (i : Int) < (T.dg.length : Int) := by omega
        have hi0 : (0 : Int) <= (i : Int) := by omega
        have hwk : IntKind.i64.wrap ((i : Int) + 1) = (i : Int) + 1 := IntWalk.i64_in _ (by omega)
        obtain ⟨tail, htail⟩ := HDIG.out i hid
        have htk := HDTK.out i hid
        rw [<- HDA.out] at htail
        obtain ⟨b1, o1, y, hy, rfl, hb1, hc1, hy0, hy1⟩ := HDG.out.get hid
        have hg : T.dg.getD i 0 = y := by rw [List.getD_eq_getElem?_getD, List.getElem?_eq_getElem hid, hy]; rfl
        rw [hg] at htail htk
        have HTL := hidep htail
        have HTK := hidep htk
        have HCD := hidep (fun (W : World) (hW : Below w0.heap.size w0 W) => (hW.cell (p := ⟨b1, o1 + i, none⟩) hb1).trans hc1)
        have hcd := HCD.out _ (hI.low HK.out)
        obtain ⟨⟨p0, p1, p2, p3, p4, p5⟩, hr2, hr4⟩ := HS6.out _ _ hI
        (try simp only at p1 p2 p3 p4 p5)
        have hi10 : i < 10 := by omega
        clear htail htk hy hg hb1 hc1 hI hd10
        go_upto_region 24 with (fail)
        refine wp_region_lit ?_
        refine zq5e rfl (v := .slice none 0 0) (w' := wr) (by kernel_rfl) ?_
        refine wpList_nil ?_
        dsimp only [Exit.then]
        apply_assumption
        refine wp_seq ?_
        refine zq17 (OfG J w B [(P, (PlBox kz ⟨⟨(k0 : Int), sn, sw⟩, nd, sq⟩))] (dA ++ (zq26 T ⟨⟨(k0 : Int), sn, sw⟩, nd, sq⟩).take i) (.pointer (some ⟨R, 0, none⟩)) (.func (.func f) #[] bs) (.pointer (some ⟨P, 0, none⟩)) (.int .i64 (i : Nat)) (.int .u8 y) (.slice xa hx.length xc) (.slice (some ⟨b1, o1, none⟩) T.dg.length dc) (.int .i64 (T.dg.length : Nat)) (.int .i64 (i : Nat))) ?g1 ?_
        case g1 =>
          intro K' hMK
          cases sn with
          | true =>
            rw [HX01.out.2 rfl] at hMK
            go_wp2
            (refine ⟨?_, ?_, ?_, ?_, ?_, ?_, ?_, ?_, ?_, ?_, ?_, HI.out⟩ <;> kernel_rfl)
          | false =>
            rw [HX01.out.1 rfl] at hr4
            go_wp2
            (refine ⟨?_, ?_, ?_, ?_, ?_, ?_, ?_, ?_, ?_, ?_, ?_, HI.out⟩ <;> kernel_rfl)
        rintro ⟨tm1, ds⟩ W1 ⟨hts, hds, e0, e2, e4, e10, e11, e12, e129, e130, e131, hW1⟩
        simp only at hts hds e0 e2 e4 e10 e11 e12 e129 e130 e131
        subst hds
        rw [zq38 tm1 [] hts, e0, e2, e4, e10, e11, e12, e129, e130, e131]
        clear hts e0 e2 e4 e10 e11 e12 e129 e130 e131
        have HW1 := hidep hW1
        clear hW1 p0 p1 p2 p3 p4 p5 hr2 hr4 hcd HI
        have HMD := hidep (show (digMv T ⟨⟨(k0 : Int), sn, sw⟩, nd, sq⟩ i y) = ⟨hx ++ [y], zq2d i, false, ⟨⟨(k0 : Int), true, false⟩, 0, false⟩⟩ from by rw [HHX.out]; rfl)
        rw [HMD.out] at HTL HTK
        have hwd : IntKind.i64.wrap (48 + (i : Int)) = 48 + (i : Int) := IntWalk.i64_in _ (by omega)
        have hwe : IntKind.u8.wrap (48 + (i : Int)) = 48 + (i : Int) := IntWalk.u8_in _ (by omega)
        have hy2 : 0 <= y /\ y < 256 := ⟨hy0, hy1⟩
        have hk := HW1.out.below HK.out ((Below.refl _ _).drew)
        go_upto_region 27 with (fail)
        refine zqad (OfG J w B [(P, (PlBox kz ⟨⟨(k0 : Int), sn, sw⟩, nd, sq⟩))] ((dA ++ (zq26 T ⟨⟨(k0 : Int), sn, sw⟩, nd, sq⟩).take i) ++ [⟨hx ++ [y], zq2d i, false, ⟨⟨(k0 : Int), true, false⟩, 0, false⟩⟩]) (.pointer (some ⟨R, 0, none⟩)) (.func (.func f) #[] bs) (.pointer (some ⟨P, 0, none⟩)) (.int .i64 (i : Nat)) (.int .u8 y) (.slice xa hx.length xc) (.slice (some ⟨b1, o1, none⟩) T.dg.length dc) (.int .i64 (T.dg.length : Nat)) (.int .i64 (i : Nat))) ?r27 ?_
        case r27 =>
          intro Q2 hMK
          refine wp_region_noPanic (wp_region_held_drew (S := (fun W => ∃ d, OfI J w B [(P, (PlBox kz ⟨⟨(k0 : Int), sn, sw⟩, nd, sq⟩))] d W)) (by kernel_rfl) ?hSz9 (fun hHeld => ?hRz9))
          case hSz9 => ((try dsimp only); (exact ⟨_, HW1.out.below HK.out ((Below.refl _ _).drew)⟩))
          refine tkC 0 rfl ?_
          refine tkC 1 rfl ?_
          refine tkC 2 rfl ?_
          refine tkC 6 rfl ?_
          refine tkC 7 rfl ?_
          refine tkC 8 rfl ?_
          refine tkC 11 rfl ?_
          refine tkC 12 rfl ?_
          refine tkB 13 rfl (.inl ⟨by kernel_rfl, fun w hSw => by (obtain ⟨⟨p0, p1, p2, p3, p4, p5⟩, hr2, hr4⟩ := HS6.out _ _ hSw.choose_spec; (try simp only at p1 p2 p3 p4 p5)); go_simp; first | done | with_reducible rfl⟩) ?_
          refine tkC 14 rfl ?_
          refine tkC 15 rfl ?_
          refine wpAnyH_ready (rs := [3, 9]) (by kernel_rfl) (by simp) (AllReadyH.cons rfl (fun K hK => ?hcz10) (AllReadyH.cons rfl (fun K hK => ?hcz11) AllReadyH.nil))
          case' hcz10 =>
            go_simp
            ((first | refine zq7 (fun Y hBX hL148 => ?_) | refine zq3 (fun Y hBX hL148 => ?_)); have hk := (by first | exact hk.below HK.out hBX | exact HW1.out.below HK.out hBX); (first | (have hL154 := zq0 hBX hL154; have hcv := convD i _ _ (zq5 hL154)) | skip); (try dsimp only))
            refine hK.out _ _ (by (try dsimp only); (exact ⟨_, hk⟩)) ?_
            clear hHeld hK; intro hHeld
            refine wpAnyH_ready (rs := [4, 9]) (by kernel_rfl) (by simp) (AllReadyH.cons rfl (fun K hK => ?hcz12) (AllReadyH.cons rfl (fun K hK => ?hcz13) AllReadyH.nil))
            case' hcz12 =>
              go_simp
              ((first | refine zq7 (fun Y hBX hL149 => ?_) | refine zq3 (fun Y hBX hL149 => ?_)); have hk := (by first | exact hk.below HK.out hBX | exact HW1.out.below HK.out hBX); (first | (have hL148 := zq0 hBX hL148) | skip); (first | (have hL154 := zq0 hBX hL154; have hcv := convD i _ _ (zq5 hL154)) | skip); (try dsimp only))
              refine hK.out _ _ (by (try dsimp only); (exact ⟨_, hk⟩)) ?_
              clear hHeld hK; intro hHeld
              refine wpAnyH_ready (rs := [5, 9]) (by kernel_rfl) (by simp) (AllReadyH.cons rfl (fun K hK => ?hcz14) (AllReadyH.cons rfl (fun K hK => ?hcz15) AllReadyH.nil))
              case' hcz14 =>
                go_simp
                (go_at_call 92; refine (zq25 _ [hx, [y]] _ (zq55 hL149 (HXB.out.below (hk.low HK.out)) (by1 hL148 hy2)) (by simp [zq2b]; omega)).mono ?_; rintro e' w7 ⟨v7, rfl, hown7, hBX⟩; obtain ⟨a7, c7, rfl, _, _⟩ := (Rd.of_own hown7).form; have hk := hk.below HK.out hBX; have hu7 := cat2 hown7 HXB.out (by1 hL148 hy2); (first | (have hL154 := zq0 hBX hL154; have hcv := convD i _ _ (zq5 hL154)) | skip); (try dsimp only))
                refine hK.out _ _ (by (try dsimp only); (exact ⟨_, hk⟩)) ?_
                clear hHeld hK; intro hHeld
                refine wpAnyH_ready (rs := [9]) (by kernel_rfl) (by simp) (AllReadyH.cons rfl (fun K hK => ?hcz16) AllReadyH.nil)
                go_simp
                ((first | refine zq7 (fun Y hBX hL154 => ?_) | refine zq3 (fun Y hBX hL154 => ?_)); have hk := (by first | exact hk.below HK.out hBX | exact HW1.out.below HK.out hBX); (first | (have hL148 := zq0 hBX hL148) | skip); (first | (have hL149 := zq0 hBX hL149) | skip); (first | (have hu7 := hu7.below hBX) | skip); have hcv := convD i _ _ (zq5 hL154); (try dsimp only))
                refine hK.out _ _ (by (try dsimp only); (exact ⟨_, hk⟩)) ?_
                clear hHeld hK; intro hHeld
                refine wpAnyH_ready (rs := [10]) (by kernel_rfl) (by simp) (AllReadyH.cons rfl (fun K hK => ?hcz17) AllReadyH.nil)
                go_simp
                refine hK.out _ _ (by (try dsimp only); (exact ⟨_, hk⟩)) ?_
                clear hHeld hK; intro hHeld
                refine wpAnyH_ready (rs := [16]) (by kernel_rfl) (by simp) (AllReadyH.cons rfl (fun K hK => ?hcz18) AllReadyH.nil)
                go_simp
                (go_at_fn f; refine (hk.call HK.out (m := ⟨hx ++ [y], zq2d i, false, ⟨⟨(k0 : Int), true, false⟩, 0, false⟩⟩) HTL.out hu7).mono ?_; rintro e' w8 ⟨rfl, hk8⟩; have hk := hk8; (try dsimp only))
                refine hK.out _ _ (by (try dsimp only); (exact ⟨_, hk⟩)) ?_
                clear hHeld hK; intro hHeld
                refine wpAnyH_done (by kernel_rfl) ?_ _
                clear hHeld
                refine NoPanic.normal ?_
              case' hcz15 =>
                go_simp
                ((first | refine zq7 (fun Y hBX hL154 => ?_) | refine zq3 (fun Y hBX hL154 => ?_)); have hk := (by first | exact hk.below HK.out hBX | exact HW1.out.below HK.out hBX); (first | (have hL148 := zq0 hBX hL148) | skip); (first | (have hL149 := zq0 hBX hL149) | skip); (first | (have hu7 := hu7.below hBX) | skip); have hcv := convD i _ _ (zq5 hL154); (try dsimp only))
                refine hK.out _ _ (by (try dsimp only); (exact ⟨_, hk⟩)) ?_
                clear hHeld hK; intro hHeld
                refine wpAnyH_ready (rs := [5, 10]) (by kernel_rfl) (by simp) (AllReadyH.cons rfl (fun K hK => ?hcz19) (AllReadyH.cons rfl (fun K hK => ?hcz20) AllReadyH.nil))
                case' hcz19 =>
                  go_simp
                  (go_at_call 92; refine (zq25 _ [hx, [y]] _ (zq55 hL149 (HXB.out.below (hk.low HK.out)) (by1 hL148 hy2)) (by simp [zq2b]; omega)).mono ?_; rintro e' w7 ⟨v7, rfl, hown7, hBX⟩; obtain ⟨a7, c7, rfl, _, _⟩ := (Rd.of_own hown7).form; have hk := hk.below HK.out hBX; have hu7 := cat2 hown7 HXB.out (by1 hL148 hy2); (first | (have hL154 := zq0 hBX hL154; have hcv := convD i _ _ (zq5 hL154)) | skip); (try dsimp only))
                  refine hK.out _ _ (by (try dsimp only); (exact ⟨_, hk⟩)) ?_
                  clear hHeld hK; intro hHeld
                  refine wpAnyH_ready (rs := [10]) (by kernel_rfl) (by simp) (AllReadyH.cons rfl (fun K hK => ?hcz21) AllReadyH.nil)
                  go_simp
                  refine hK.out _ _ (by (try dsimp only); (exact ⟨_, hk⟩)) ?_
                  clear hHeld hK; intro hHeld
                  refine wpAnyH_ready (rs := [16]) (by kernel_rfl) (by simp) (AllReadyH.cons rfl (fun K hK => ?hcz22) AllReadyH.nil)
                  go_simp
                  (go_at_fn f; refine (hk.call HK.out (m := ⟨hx ++ [y], zq2d i, false, ⟨⟨(k0 : Int), true, false⟩, 0, false⟩⟩) HTL.out hu7).mono ?_; rintro e' w8 ⟨rfl, hk8⟩; have hk := hk8; (try dsimp only))
                  refine hK.out _ _ (by (try dsimp only); (exact ⟨_, hk⟩)) ?_
                  clear hHeld hK; intro hHeld
                  refine wpAnyH_done (by kernel_rfl) ?_ _
                  clear hHeld
                  refine NoPanic.normal ?_
                case' hcz20 =>
                  go_simp
                  refine hK.out _ _ (by (try dsimp only); (exact ⟨_, hk⟩)) ?_
                  clear hHeld hK; intro hHeld
                  refine wpAnyH_ready (rs := [5]) (by kernel_rfl) (by simp) (AllReadyH.cons rfl (fun K hK => ?hcz23) AllReadyH.nil)
                  go_simp
                  (go_at_call 92; refine (zq25 _ [hx, [y]] _ (zq55 hL149 (HXB.out.below (hk.low HK.out)) (by1 hL148 hy2)) (by simp [zq2b]; omega)).mono ?_; rintro e' w7 ⟨v7, rfl, hown7, hBX⟩; obtain ⟨a7, c7, rfl, _, _⟩ := (Rd.of_own hown7).form; have hk := hk.below HK.out hBX; have hu7 := cat2 hown7 HXB.out (by1 hL148 hy2); (first | (have hL154 := zq0 hBX hL154; have hcv := convD i _ _ (zq5 hL154)) | skip); (try dsimp only))
                  refine hK.out _ _ (by (try dsimp only); (exact ⟨_, hk⟩)) ?_
                  clear hHeld hK; intro hHeld
                  refine wpAnyH_ready (rs := [16]) (by kernel_rfl) (by simp) (AllReadyH.cons rfl (fun K hK => ?hcz24) AllReadyH.nil)
                  go_simp
                  (go_at_fn f; refine (hk.call HK.out (m := ⟨hx ++ [y], zq2d i, false, ⟨⟨(k0 : Int), true, false⟩, 0, false⟩⟩) HTL.out hu7).mono ?_; rintro e' w8 ⟨rfl, hk8⟩; have hk := hk8; (try dsimp only))
                  refine hK.out _ _ (by (try dsimp only); (exact ⟨_, hk⟩)) ?_
                  clear hHeld hK; intro hHeld
                  refine wpAnyH_done (by kernel_rfl) ?_ _
                  clear hHeld
                  refine NoPanic.normal ?_
            case' hcz13 =>
              go_simp
              ((first | refine zq7 (fun Y hBX hL154 => ?_) | refine zq3 (fun Y hBX hL154 => ?_)); have hk := (by first | exact hk.below HK.out hBX | exact HW1.out.below HK.out hBX); (first | (have hL148 := zq0 hBX hL148) | skip); (first | (have hL149 := zq0 hBX hL149) | skip); (first | (have hu7 := hu7.below hBX) | skip); have hcv := convD i _ _ (zq5 hL154); (try dsimp only))
              refine hK.out _ _ (by (try dsimp only); (exact ⟨_, hk⟩)) ?_
              clear hHeld hK; intro hHeld
              refine wpAnyH_ready (rs := [4, 10]) (by kernel_rfl) (by simp) (AllReadyH.cons rfl (fun K hK => ?hcz25) (AllReadyH.cons rfl (fun K hK => ?hcz26) AllReadyH.nil))
              case' hcz25 =>
                go_simp
                ((first | refine zq7 (fun Y hBX hL149 => ?_) | refine zq3 (fun Y hBX hL149 => ?_)); have hk := (by first | exact hk.below HK.out hBX | exact HW1.out.below HK.out hBX); (first | (have hL148 := zq0 hBX hL148) | skip); (first | (have hL154 := zq0 hBX hL154; have hcv := convD i _ _ (zq5 hL154)) | skip); (try dsimp only))
                refine hK.out _ _ (by (try dsimp only); (exact ⟨_, hk⟩)) ?_
                clear hHeld hK; intro hHeld
                refine wpAnyH_ready (rs := [5, 10]) (by kernel_rfl) (by simp) (AllReadyH.cons rfl (fun K hK => ?hcz27) (AllReadyH.cons rfl (fun K hK => ?hcz28) AllReadyH.nil))
                case' hcz27 =>
                  go_simp
                  (go_at_call 92; refine (zq25 _ [hx, [y]] _ (zq55 hL149 (HXB.out.below (hk.low HK.out)) (by1 hL148 hy2)) (by simp [zq2b]; omega)).mono ?_; rintro e' w7 ⟨v7, rfl, hown7, hBX⟩; obtain ⟨a7, c7, rfl, _, _⟩ := (Rd.of_own hown7).form; have hk := hk.below HK.out hBX; have hu7 := cat2 hown7 HXB.out (by1 hL148 hy2); (first | (have hL154 := zq0 hBX hL154; have hcv := convD i _ _ (zq5 hL154)) | skip); (try dsimp only))
                  refine hK.out _ _ (by (try dsimp only); (exact ⟨_, hk⟩)) ?_
                  clear hHeld hK; intro hHeld
                  refine wpAnyH_ready (rs := [10]) (by kernel_rfl) (by simp) (AllReadyH.cons rfl (fun K hK => ?hcz29) AllReadyH.nil)
                  go_simp
                  refine hK.out _ _ (by (try dsimp only); (exact ⟨_, hk⟩)) ?_
                  clear hHeld hK; intro hHeld
                  refine wpAnyH_ready (rs := [16]) (by kernel_rfl) (by simp) (AllReadyH.cons rfl (fun K hK => ?hcz30) AllReadyH.nil)
                  go_simp
                  (go_at_fn f; refine (hk.call HK.out (m := ⟨hx ++ [y], zq2d i, false, ⟨⟨(k0 : Int), true, false⟩, 0, false⟩⟩) HTL.out hu7).mono ?_; rintro e' w8 ⟨rfl, hk8⟩; have hk := hk8; (try dsimp only))
                  refine hK.out _ _ (by (try dsimp only); (exact ⟨_, hk⟩)) ?_
                  clear hHeld hK; intro hHeld
                  refine wpAnyH_done (by kernel_rfl) ?_ _
                  clear hHeld
                  refine NoPanic.normal ?_
                case' hcz28 =>
                  go_simp
                  refine hK.out _ _ (by (try dsimp only); (exact ⟨_, hk⟩)) ?_
                  clear hHeld hK; intro hHeld
                  refine wpAnyH_ready (rs := [5]) (by kernel_rfl) (by simp) (AllReadyH.cons rfl (fun K hK => ?hcz31) AllReadyH.nil)
                  go_simp
                  (go_at_call 92; refine (zq25 _ [hx, [y]] _ (zq55 hL149 (HXB.out.below (hk.low HK.out)) (by1 hL148 hy2)) (by simp [zq2b]; omega)).mono ?_; rintro e' w7 ⟨v7, rfl, hown7, hBX⟩; obtain ⟨a7, c7, rfl, _, _⟩ := (Rd.of_own hown7).form; have hk := hk.below HK.out hBX; have hu7 := cat2 hown7 HXB.out (by1 hL148 hy2); (first | (have hL154 := zq0 hBX hL154; have hcv := convD i _ _ (zq5 hL154)) | skip); (try dsimp only))
                  refine hK.out _ _ (by (try dsimp only); (exact ⟨_, hk⟩)) ?_
                  clear hHeld hK; intro hHeld
                  refine wpAnyH_ready (rs := [16]) (by kernel_rfl) (by simp) (AllReadyH.cons rfl (fun K hK => ?hcz32) AllReadyH.nil)
                  go_simp
                  (go_at_fn f; refine (hk.call HK.out (m := ⟨hx ++ [y], zq2d i, false, ⟨⟨(k0 : Int), true, false⟩, 0, false⟩⟩) HTL.out hu7).mono ?_; rintro e' w8 ⟨rfl, hk8⟩; have hk := hk8; (try dsimp only))
                  refine hK.out _ _ (by (try dsimp only); (exact ⟨_, hk⟩)) ?_
                  clear hHeld hK; intro hHeld
                  refine wpAnyH_done (by kernel_rfl) ?_ _
                  clear hHeld
                  refine NoPanic.normal ?_
              case' hcz26 =>
                go_simp
                refine hK.out _ _ (by (try dsimp only); (exact ⟨_, hk⟩)) ?_
                clear hHeld hK; intro hHeld
                refine wpAnyH_ready (rs := [4]) (by kernel_rfl) (by simp) (AllReadyH.cons rfl (fun K hK => ?hcz33) AllReadyH.nil)
                go_simp
                ((first | refine zq7 (fun Y hBX hL149 => ?_) | refine zq3 (fun Y hBX hL149 => ?_)); have hk := (by first | exact hk.below HK.out hBX | exact HW1.out.below HK.out hBX); (first | (have hL148 := zq0 hBX hL148) | skip); (first | (have hL154 := zq0 hBX hL154; have hcv := convD i _ _ (zq5 hL154)) | skip); (try dsimp only))
                refine hK.out _ _ (by (try dsimp only); (exact ⟨_, hk⟩)) ?_
                clear hHeld hK; intro hHeld
                refine wpAnyH_ready (rs := [5]) (by kernel_rfl) (by simp) (AllReadyH.cons rfl (fun K hK => ?hcz34) AllReadyH.nil)
                go_simp
                (go_at_call 92; refine (zq25 _ [hx, [y]] _ (zq55 hL149 (HXB.out.below (hk.low HK.out)) (by1 hL148 hy2)) (by simp [zq2b]; omega)).mono ?_; rintro e' w7 ⟨v7, rfl, hown7, hBX⟩; obtain ⟨a7, c7, rfl, _, _⟩ := (Rd.of_own hown7).form; have hk := hk.below HK.out hBX; have hu7 := cat2 hown7 HXB.out (by1 hL148 hy2); (first | (have hL154 := zq0 hBX hL154; have hcv := convD i _ _ (zq5 hL154)) | skip); (try dsimp only))
                refine hK.out _ _ (by (try dsimp only); (exact ⟨_, hk⟩)) ?_
                clear hHeld hK; intro hHeld
                refine wpAnyH_ready (rs := [16]) (by kernel_rfl) (by simp) (AllReadyH.cons rfl (fun K hK => ?hcz35) AllReadyH.nil)
                go_simp
                (go_at_fn f; refine (hk.call HK.out (m := ⟨hx ++ [y], zq2d i, false, ⟨⟨(k0 : Int), true, false⟩, 0, false⟩⟩) HTL.out hu7).mono ?_; rintro e' w8 ⟨rfl, hk8⟩; have hk := hk8; (try dsimp only))
                refine hK.out _ _ (by (try dsimp only); (exact ⟨_, hk⟩)) ?_
                clear hHeld hK; intro hHeld
                refine wpAnyH_done (by kernel_rfl) ?_ _
                clear hHeld
                refine NoPanic.normal ?_
          case' hcz11 =>
            go_simp
            ((first | refine zq7 (fun Y hBX hL154 => ?_) | refine zq3 (fun Y hBX hL154 => ?_)); have hk := (by first | exact hk.below HK.out hBX | exact HW1.out.below HK.out hBX); (first | (have hL148 := zq0 hBX hL148) | skip); (first | (have hL149 := zq0 hBX hL149) | skip); (first | (have hu7 := hu7.below hBX) | skip); have hcv := convD i _ _ (zq5 hL154); (try dsimp only))
            refine hK.out _ _ (by (try dsimp only); (exact ⟨_, hk⟩)) ?_
            clear hHeld hK; intro hHeld
            refine wpAnyH_ready (rs := [3, 10]) (by kernel_rfl) (by simp) (AllReadyH.cons rfl (fun K hK => ?hcz36) (AllReadyH.cons rfl (fun K hK => ?hcz37) AllReadyH.nil))
            case' hcz36 =>
              go_simp
              ((first | refine zq7 (fun Y hBX hL148 => ?_) | refine zq3 (fun Y hBX hL148 => ?_)); have hk := (by first | exact hk.below HK.out hBX | exact HW1.out.below HK.out hBX); (first | (have hL154 := zq0 hBX hL154; have hcv := convD i _ _ (zq5 hL154)) | skip); (try dsimp only))
              refine hK.out _ _ (by (try dsimp only); (exact ⟨_, hk⟩)) ?_
              clear hHeld hK; intro hHeld
              refine wpAnyH_ready (rs := [4, 10]) (by kernel_rfl) (by simp) (AllReadyH.cons rfl (fun K hK => ?hcz38) (AllReadyH.cons rfl (fun K hK => ?hcz39) AllReadyH.nil))
              case' hcz38 =>
                go_simp
                ((first | refine zq7 (fun Y hBX hL149 => ?_) | refine zq3 (fun Y hBX hL149 => ?_)); have hk := (by first | exact hk.below HK.out hBX | exact HW1.out.below HK.out hBX); (first | (have hL148 := zq0 hBX hL148) | skip); (first | (have hL154 := zq0 hBX hL154; have hcv := convD i _ _ (zq5 hL154)) | skip); (try dsimp only))
                refine hK.out _ _ (by (try dsimp only); (exact ⟨_, hk⟩)) ?_
                clear hHeld hK; intro hHeld
                refine wpAnyH_ready (rs := [5, 10]) (by kernel_rfl) (by simp) (AllReadyH.cons rfl (fun K hK => ?hcz40) (AllReadyH.cons rfl (fun K hK => ?hcz41) AllReadyH.nil))
                case' hcz40 =>
                  go_simp
                  (go_at_call 92; refine (zq25 _ [hx, [y]] _ (zq55 hL149 (HXB.out.below (hk.low HK.out)) (by1 hL148 hy2)) (by simp [zq2b]; omega)).mono ?_; rintro e' w7 ⟨v7, rfl, hown7, hBX⟩; obtain ⟨a7, c7, rfl, _, _⟩ := (Rd.of_own hown7).form; have hk := hk.below HK.out hBX; have hu7 := cat2 hown7 HXB.out (by1 hL148 hy2); (first | (have hL154 := zq0 hBX hL154; have hcv := convD i _ _ (zq5 hL154)) | skip); (try dsimp only))
                  refine hK.out _ _ (by (try dsimp only); (exact ⟨_, hk⟩)) ?_
                  clear hHeld hK; intro hHeld
                  refine wpAnyH_ready (rs := [10]) (by kernel_rfl) (by simp) (AllReadyH.cons rfl (fun K hK => ?hcz42) AllReadyH.nil)
                  go_simp
                  refine hK.out _ _ (by (try dsimp only); (exact ⟨_, hk⟩)) ?_
                  clear hHeld hK; intro hHeld
                  refine wpAnyH_ready (rs := [16]) (by kernel_rfl) (by simp) (AllReadyH.cons rfl (fun K hK => ?hcz43) AllReadyH.nil)
                  go_simp
                  (go_at_fn f; refine (hk.call HK.out (m := ⟨hx ++ [y], zq2d i, false, ⟨⟨(k0 : Int), true, false⟩, 0, false⟩⟩) HTL.out hu7).mono ?_; rintro e' w8 ⟨rfl, hk8⟩; have hk := hk8; (try dsimp only))
                  refine hK.out _ _ (by (try dsimp only); (exact ⟨_, hk⟩)) ?_
                  clear hHeld hK; intro hHeld
                  refine wpAnyH_done (by kernel_rfl) ?_ _
                  clear hHeld
                  refine NoPanic.normal ?_
                case' hcz41 =>
                  go_simp
                  refine hK.out _ _ (by (try dsimp only); (exact ⟨_, hk⟩)) ?_
                  clear hHeld hK; intro hHeld
                  refine wpAnyH_ready (rs := [5]) (by kernel_rfl) (by simp) (AllReadyH.cons rfl (fun K hK => ?hcz44) AllReadyH.nil)
                  go_simp
                  (go_at_call 92; refine (zq25 _ [hx, [y]] _ (zq55 hL149 (HXB.out.below (hk.low HK.out)) (by1 hL148 hy2)) (by simp [zq2b]; omega)).mono ?_; rintro e' w7 ⟨v7, rfl, hown7, hBX⟩; obtain ⟨a7, c7, rfl, _, _⟩ := (Rd.of_own hown7).form; have hk := hk.below HK.out hBX; have hu7 := cat2 hown7 HXB.out (by1 hL148 hy2); (first | (have hL154 := zq0 hBX hL154; have hcv := convD i _ _ (zq5 hL154)) | skip); (try dsimp only))
                  refine hK.out _ _ (by (try dsimp only); (exact ⟨_, hk⟩)) ?_
                  clear hHeld hK; intro hHeld
                  refine wpAnyH_ready (rs := [16]) (by kernel_rfl) (by simp) (AllReadyH.cons rfl (fun K hK => ?hcz45) AllReadyH.nil)
                  go_simp
                  (go_at_fn f; refine (hk.call HK.out (m := ⟨hx ++ [y], zq2d i, false, ⟨⟨(k0 : Int), true, false⟩, 0, false⟩⟩) HTL.out hu7).mono ?_; rintro e' w8 ⟨rfl, hk8⟩; have hk := hk8; (try dsimp only))
                  refine hK.out _ _ (by (try dsimp only); (exact ⟨_, hk⟩)) ?_
                  clear hHeld hK; intro hHeld
                  refine wpAnyH_done (by kernel_rfl) ?_ _
                  clear hHeld
                  refine NoPanic.normal ?_
              case' hcz39 =>
                go_simp
                refine hK.out _ _ (by (try dsimp only); (exact ⟨_, hk⟩)) ?_
                clear hHeld hK; intro hHeld
                refine wpAnyH_ready (rs := [4]) (by kernel_rfl) (by simp) (AllReadyH.cons rfl (fun K hK => ?hcz46) AllReadyH.nil)
                go_simp
                ((first | refine zq7 (fun Y hBX hL149 => ?_) | refine zq3 (fun Y hBX hL149 => ?_)); have hk := (by first | exact hk.below HK.out hBX | exact HW1.out.below HK.out hBX); (first | (have hL148 := zq0 hBX hL148) | skip); (first | (have hL154 := zq0 hBX hL154; have hcv := convD i _ _ (zq5 hL154)) | skip); (try dsimp only))
                refine hK.out _ _ (by (try dsimp only); (exact ⟨_, hk⟩)) ?_
                clear hHeld hK; intro hHeld
                refine wpAnyH_ready (rs := [5]) (by kernel_rfl) (by simp) (AllReadyH.cons rfl (fun K hK => ?hcz47) AllReadyH.nil)
                go_simp
                (go_at_call 92; refine (zq25 _ [hx, [y]] _ (zq55 hL149 (HXB.out.below (hk.low HK.out)) (by1 hL148 hy2)) (by simp [zq2b]; omega)).mono ?_; rintro e' w7 ⟨v7, rfl, hown7, hBX⟩; obtain ⟨a7, c7, rfl, _, _⟩ := (Rd.of_own hown7).form; have hk := hk.below HK.out hBX; have hu7 := cat2 hown7 HXB.out (by1 hL148 hy2); (first | (have hL154 := zq0 hBX hL154; have hcv := convD i _ _ (zq5 hL154)) | skip); (try dsimp only))
                refine hK.out _ _ (by (try dsimp only); (exact ⟨_, hk⟩)) ?_
                clear hHeld hK; intro hHeld
                refine wpAnyH_ready (rs := [16]) (by kernel_rfl) (by simp) (AllReadyH.cons rfl (fun K hK => ?hcz48) AllReadyH.nil)
                go_simp
                (go_at_fn f; refine (hk.call HK.out (m := ⟨hx ++ [y], zq2d i, false, ⟨⟨(k0 : Int), true, false⟩, 0, false⟩⟩) HTL.out hu7).mono ?_; rintro e' w8 ⟨rfl, hk8⟩; have hk := hk8; (try dsimp only))
                refine hK.out _ _ (by (try dsimp only); (exact ⟨_, hk⟩)) ?_
                clear hHeld hK; intro hHeld
                refine wpAnyH_done (by kernel_rfl) ?_ _
                clear hHeld
                refine NoPanic.normal ?_
            case' hcz37 =>
              go_simp
              refine hK.out _ _ (by (try dsimp only); (exact ⟨_, hk⟩)) ?_
              clear hHeld hK; intro hHeld
              refine wpAnyH_ready (rs := [3]) (by kernel_rfl) (by simp) (AllReadyH.cons rfl (fun K hK => ?hcz49) AllReadyH.nil)
              go_simp
              ((first | refine zq7 (fun Y hBX hL148 => ?_) | refine zq3 (fun Y hBX hL148 => ?_)); have hk := (by first | exact hk.below HK.out hBX | exact HW1.out.below HK.out hBX); (first | (have hL154 := zq0 hBX hL154; have hcv := convD i _ _ (zq5 hL154)) | skip); (try dsimp only))
              refine hK.out _ _ (by (try dsimp only); (exact ⟨_, hk⟩)) ?_
              clear hHeld hK; intro hHeld
              refine wpAnyH_ready (rs := [4]) (by kernel_rfl) (by simp) (AllReadyH.cons rfl (fun K hK => ?hcz50) AllReadyH.nil)
              go_simp
              ((first | refine zq7 (fun Y hBX hL149 => ?_) | refine zq3 (fun Y hBX hL149 => ?_)); have hk := (by first | exact hk.below HK.out hBX | exact HW1.out.below HK.out hBX); (first | (have hL148 := zq0 hBX hL148) | skip); (first | (have hL154 := zq0 hBX hL154; have hcv := convD i _ _ (zq5 hL154)) | skip); (try dsimp only))
              refine hK.out _ _ (by (try dsimp only); (exact ⟨_, hk⟩)) ?_
              clear hHeld hK; intro hHeld
              refine wpAnyH_ready (rs := [5]) (by kernel_rfl) (by simp) (AllReadyH.cons rfl (fun K hK => ?hcz51) AllReadyH.nil)
              go_simp
              (go_at_call 92; refine (zq25 _ [hx, [y]] _ (zq55 hL149 (HXB.out.below (hk.low HK.out)) (by1 hL148 hy2)) (by simp [zq2b]; omega)).mono ?_; rintro e' w7 ⟨v7, rfl, hown7, hBX⟩; obtain ⟨a7, c7, rfl, _, _⟩ := (Rd.of_own hown7).form; have hk := hk.below HK.out hBX; have hu7 := cat2 hown7 HXB.out (by1 hL148 hy2); (first | (have hL154 := zq0 hBX hL154; have hcv := convD i _ _ (zq5 hL154)) | skip); (try dsimp only))
              refine hK.out _ _ (by (try dsimp only); (exact ⟨_, hk⟩)) ?_
              clear hHeld hK; intro hHeld
              refine wpAnyH_ready (rs := [16]) (by kernel_rfl) (by simp) (AllReadyH.cons rfl (fun K hK => ?hcz52) AllReadyH.nil)
              go_simp
              (go_at_fn f; refine (hk.call HK.out (m := ⟨hx ++ [y], zq2d i, false, ⟨⟨(k0 : Int), true, false⟩, 0, false⟩⟩) HTL.out hu7).mono ?_; rintro e' w8 ⟨rfl, hk8⟩; have hk := hk8; (try dsimp only))
              refine hK.out _ _ (by (try dsimp only); (exact ⟨_, hk⟩)) ?_
              clear hHeld hK; intro hHeld
              refine wpAnyH_done (by kernel_rfl) ?_ _
              clear hHeld
              refine NoPanic.normal ?_
          all_goals
            (refine hMK _ _ ⟨?_, ?_, ?_, ?_, ?_, ?_, ?_, ?_, ?_, ?_, ?_, hk⟩ <;> kernel_rfl)
        rintro ⟨tm6, ds⟩ W6 ⟨hts, hds, e0, e2, e4, e10, e11, e12, e129, e130, e131, hW6⟩
        simp only at hts hds e0 e2 e4 e10 e11 e12 e129 e130 e131
        subst hds
        (dsimp only [Exit.inBlock, Exit.then]; apply_assumption)
        rw [zq38 tm6 [] hts, e0, e2, e4, e10, e11, e12, e129, e130, e131]
        clear hts e0 e2 e4 e10 e11 e12 e129 e130 e131
        have HW6 := hidep hW6
        clear hW6 HW1 hk
        go_wp2
        refine ⟨LoopI.mk rfl ⟨rfl, rfl, rfl, rfl, rfl, rfl, i + 1, by omega, by show Value.int _ _ = _; go_num, by rw [HTK.out, <- List.append_assoc]; exact HW6.out⟩, ?_⟩
        show T.dg.length - _ < T.dg.length - _
        simp [natI]; omega
      · have hii : ¬ (i : Int) < (T.dg.length : Int) := by omega
        have hie : i = T.dg.length := by omega
        obtain ⟨dB, hdB⟩ : ∃ x, x = dA ++ zq26 T ⟨⟨(k0 : Int), sn, sw⟩, nd, sq⟩ := ⟨_, rfl⟩
        have hI2 : OfI J w B [(P, (PlBox kz ⟨⟨(k0 : Int), sn, sw⟩, nd, sq⟩))] dB wr := by
          rw [hdB]
          rw [hie, List.take_of_length_le (by rw [zq52]; exact Nat.le_refl _)] at hI
          exact hI
        have HI2 := hidep hI2
        rw [<- hdB] at HSWI
        obtain ⟨sa, sc, hsa, _, _⟩ := HT.out.sw.1.form
        have HSB := hidep (show BysAt w0 (.slice sa T.sw.length sc) T.sw from by rw [<- hsa]; exact HT.out.sw)
        have HSC := hidep hsa
        have HS7 := hidep (fun (d : List MvZ) (W : World) (h : OfI J w B [(P, (PlBox kz ⟨⟨(k0 : Int), sn, sw⟩, nd, sq⟩))] d W) => And.intro (pl6 (h.box (List.mem_cons_self ..))) (show W.cell? ⟨R, 6, none⟩ = some (.slice sa T.sw.length sc) from by rw [(HSEE.out _ _ _ h).2.2.2.2.2.2.1, HSC.out]))
        obtain ⟨⟨p0, p1, p2, p3, p4, p5⟩, hr6⟩ := HS7.out _ _ hI2
        (try simp only at p1 p2 p3 p4 p5)
        clear hI hI2 hdB hie hi hd10 HI hsa
        cases sq with
        | true =>
          have HE := hidep (HSWI.out.trans (by unfold swMv; simp : _ = dB))
          go_wp2
          refine bodyPost_end (results_none rfl _ _ _) rfl ?_
          rw [HE.out]
          exact ⟨rfl, HI2.out.done⟩
        | false =>
          have HE := hidep (HSWI.out.trans (by unfold swMv; simp : _ = dB ++ [⟨T.sw, ByteArray.empty, false, ⟨⟨1 - (k0 : Int), false, false⟩, 0, true⟩⟩]))
          have hw1 : IntKind.i64.wrap (1 - (k0 : Int)) = 1 - (k0 : Int) := IntWalk.i64_in _ (by omega)
          have hk := HI2.out.below HK.out ((Below.refl _ _).drew)
          go_upto_region 30 with (fail)
          refine wp_region_noPanic (wp_region_held_drew (S := (fun W => ∃ d, OfI J w B [(P, (PlBox kz ⟨⟨(k0 : Int), sn, sw⟩, nd, false⟩))] d W)) (by kernel_rfl) ?hSz53 (fun hHeld => ?hRz53))
          case hSz53 => ((try dsimp only); (exact ⟨_, hk⟩))
          refine tkC 0 rfl ?_
          refine tkC 1 rfl ?_
          refine tkC 2 rfl ?_
          refine tkC 3 rfl ?_
          refine tkC 4 rfl ?_
          refine tkB 5 rfl (.inl ⟨by kernel_rfl, fun w hSw => by (obtain ⟨⟨p0, p1, p2, p3, p4, p5⟩, hr6⟩ := HS7.out _ _ hSw.choose_spec; (try simp only at p1 p2 p3 p4 p5)); go_simp; first | done | with_reducible rfl⟩) ?_
          refine tkC 6 rfl ?_
          refine tkC 7 rfl ?_
          refine tkB 8 rfl (.inl ⟨by kernel_rfl, fun w hSw => by (obtain ⟨⟨p0, p1, p2, p3, p4, p5⟩, hr6⟩ := HS7.out _ _ hSw.choose_spec; (try simp only at p1 p2 p3 p4 p5)); go_simp; first | done | with_reducible rfl⟩) ?_
          refine tkC 9 rfl ?_
          refine tkC 10 rfl ?_
          refine tkC 11 rfl ?_
          refine wpAnyH_ready (rs := [12]) (by kernel_rfl) (by simp) (AllReadyH.cons rfl (fun K hK => ?hcz54) AllReadyH.nil)
          go_simp
          (go_at_fn f; refine (hk.call HK.out (m := ⟨T.sw, ByteArray.empty, false, ⟨⟨1 - (k0 : Int), false, false⟩, 0, true⟩⟩) HE.out (HSB.out.below (hk.low HK.out))).mono ?_; rintro e' w8 ⟨rfl, hk8⟩; have hk := hk8; (try dsimp only))
          refine hK.out _ _ (by (try dsimp only); (exact ⟨_, hk⟩)) ?_
          clear hHeld hK; intro hHeld
          refine wpAnyH_done (by kernel_rfl) ?_ _
          clear hHeld
          refine NoPanic.normal ?_
          have HKK := hidep hk
          clear hk
          go_wp2
          refine bodyPost_end (results_none rfl _ _ _) rfl ?_
          rw [HE.out]
          exact ⟨rfl, HKK.out.done⟩
end Go.Proofs.YtcfjepcflanjbaaGreat
