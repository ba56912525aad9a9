/- Contract: the code's rest, with the map of what is known. -/
import Derived.Maps.OwnIn
import Derived.Test.YtfljgcpfmhhgcaaRdZ
import Derived.Test.YtfljgcpfmhhgcaaRdQ
import Derived.Test.YtfljgcpfmhhgcaaRdN
namespace Go.Proofs.Ytfljgcpfmhhgcaa
open Go.RowKit Go.Lab
attribute [local go_sem] Oper.semAt_some
def cst : Nat → Nat
  | 0 => 1
  | m + 1 => 8 * cst m + 1
/-- All blocks of before but those of T are as they were. -/
structure Turned (T : Nat → Prop) (w w' : World) : Prop where
  os : w'.os = w.os
  tape : w'.tape = w.tape
  output : w'.output = w.output
  size : w.heap.size ≤ w'.heap.size
  block : ∀ b, b < w.heap.size → ¬ T b → w'.heap[b]? = w.heap[b]?
theorem Turned.refl (T : Nat → Prop) (w : World) : Turned T w w := ⟨rfl, rfl, rfl, Nat.le_refl _, fun _ _ _ => rfl⟩
theorem Turned.trans {T : Nat → Prop} {a b c : World} (h : Turned T a b) (k : Turned T b c) : Turned T a c :=
  ⟨k.os.trans h.os, k.tape.trans h.tape, k.output.trans h.output, Nat.le_trans h.size k.size, fun x hx hT => (k.block x (Nat.lt_of_lt_of_le hx h.size) hT).trans (h.block x hx hT)⟩
theorem Turned.mono {T T' : Nat → Prop} {a b : World} (h : Turned T a b) (hT : ∀ x, x < a.heap.size → T x → T' x) : Turned T' a b :=
  ⟨h.os, h.tape, h.output, h.size, fun x hx hn => h.block x hx (fun ht => hn (hT x hx ht))⟩
theorem Turned.of_below {T : Nat → Prop} {w w' : World} (h : Below w.heap.size w w') : Turned T w w' := ⟨h.os, h.tape, h.output, h.size, fun b hb _ => h.block b hb⟩
theorem Turned.of_grown {T : Nat → Prop} {w w' : World} {x : Nat} (h : w.grownBy w' (some x)) (hx : T x) : Turned T w w' :=
  ⟨h.os, h.tape, h.output, h.size, fun b hb hT => h.block b hb (fun e => by injection e with e; subst e; exact hT hx)⟩
theorem Turned.grown {T : Nat → Prop} {w w' : World} {x : Nat} (h : Turned T w w') (hT : ∀ b, b < w.heap.size → T b → b = x) : w.grownBy w' (some x) :=
  ⟨h.os, h.tape, h.output, h.size, fun b hb hn => h.block b hb (fun ht => hn (by rw [hT b hb ht]))⟩
theorem Turned.cells {T : Nat → Prop} {w w' : World} (h : Turned T w w') {b : Nat} {o : Obj} (hb : w.heap[b]? = some o) (hT : ¬ T b) : w'.heap[b]? = some o := (h.block b (lt_of_block hb) hT).trans hb
theorem Turned.keeps {T : Nat → Prop} {w w' : World} (h : Turned T w w') (hT : ∀ b, T b → ∀ cur t fz, w.heap[b]? ≠ some (.cells cur t fz)) : Keeps (fun _ => True) w w' :=
  ⟨h.size, fun b cur t fz _ hb => h.cells hb (fun ht => hT b ht cur t fz hb)⟩
theorem Turned.drew {T : Nat → Prop} {w w' : World} (h : Turned T w w') : Turned T w w'.drew := ⟨h.os, h.tape, h.output, h.size, h.block⟩
theorem Turned.alloc {T : Nat → Prop} {w w' : World} (h : Turned T w w') (o : Obj) : Turned T w (w'.alloc o) := h.trans (Turned.of_below ((Below.refl _ _).alloc (Nat.le_refl _) o))
theorem Turned.below {T : Nat → Prop} {w w' w'' : World} (h : Turned T w w') (hb : Below w'.heap.size w' w'') : Turned T w w'' := h.trans (Turned.of_below hb)
theorem Turned.setCell {T : Nat → Prop} {w w' : World} (h : Turned T w w') (a : Addr) (v : Value) (ha : w.heap.size ≤ a.block ∨ T a.block) : Turned T w (w'.setCell a v) :=
  ⟨h.os, h.tape, h.output, by simp [World.setCell]; exact h.size, fun b hb hT => (Below.heap_setCell w' a v b (fun e => by subst e; rcases ha with h1 | h1; exact absurd hb (Nat.not_lt.2 h1); exact hT h1)).trans (h.block b hb hT)⟩
theorem Turned.own {T : Nat → Prop} {w W W' : World} {row : Option Nat} (h : Turned T w W) (hg : W.grownBy W' row) (hr : ∀ r, row = some r → w.heap.size ≤ r) : Turned T w W' :=
  ⟨hg.os.trans h.os, hg.tape.trans h.tape, hg.output.trans h.output, Nat.le_trans h.size hg.size, fun b hb hT => (hg.block b (Nat.lt_of_lt_of_le hb h.size) (fun e => absurd hb (Nat.not_lt.2 (hr b e.symm)))).trans (h.block b hb hT)⟩
theorem Turned.from {T : Nat → Prop} {w w' : World} (h : Turned T w w') {B : Nat} (hT : ∀ b, B ≤ b → ¬ T b) : KeepsFrom B w w' := ⟨h.size, fun k _ hk ho _ => h.cells ho (hT k hk)⟩
theorem Turned.kp3 {T : Nat → Prop} {w w' : World} (h : Turned T w w') {B : Nat} (hB : B + 3 ≤ w.heap.size) (hT : ∀ b, B ≤ b → b < B + 3 → ¬ T b) : Kp3 B w w' := fun b h1 h2 => h.block b (by omega) (hT b h1 h2)
theorem Turned.cell {T : Nat → Prop} {w w' : World} (h : Turned T w w') {b o : Nat} {v : Value} (hc : w.cell? ⟨b, o, none⟩ = some v) (hT : ¬ T b) : w'.cell? ⟨b, o, none⟩ = some v := by
  have hb : b < w.heap.size := World.block_lt_of_cell? w ⟨b, o, none⟩ hc
  simp only [World.cell?, h.block b hb hT] at hc ⊢
  exact hc
theorem cell_ne_map {w : World} {b o bm : Nat} {v : Value} {es : Array MapEntry} {ck : Nat} (hc : w.cell? ⟨b, o, none⟩ = some v) (hm : w.heap[bm]? = some (.map es ck)) : ¬ b = bm := by
  rintro rfl
  simp [World.cell?, hm] at hc
theorem box6_cells {w : World} {b : Nat} {x0 x1 x2 x3 x4 x5 : Value} {t : TypeId} {fz : Nat × Nat} (h : w.heap[b]? = some (.cells #[x0, x1, x2, x3, x4, x5] t fz)) :
    w.cell? ⟨b, 0, none⟩ = some x0 ∧ w.cell? ⟨b, 1, none⟩ = some x1 ∧ w.cell? ⟨b, 2, none⟩ = some x2 ∧ w.cell? ⟨b, 3, none⟩ = some x3 ∧ w.cell? ⟨b, 4, none⟩ = some x4 ∧ w.cell? ⟨b, 5, none⟩ = some x5 := by
  refine ⟨?_, ?_, ?_, ?_, ?_, ?_⟩ <;> simp [World.cell?, h]
theorem zero_int (w : World) : (zeroValue 3).run Try.prog w = .ok (.int .i64 0) w := by kernel_rfl
def restFold (way : Int) (L : List Pl) (s : Nat) (F : Pl) (l : List Nat) : Int := l.foldl (fun a k => takeZ a (costZ way F (lp L k) + restV way L (s - 2 ^ k) (lp L k))) (-1)
theorem restFold_snoc (way : Int) (L : List Pl) (s : Nat) (F : Pl) (l : List Nat) (k : Nat) : restFold way L s F (l ++ [k]) = takeZ (restFold way L s F l) (costZ way F (lp L k) + restV way L (s - 2 ^ k) (lp L k)) := by
  simp [restFold]
def RestR (w : World) (way : Int) (L : List Pl) (bm cnt s : Nat) (at_ : Int) : Ending → World → Prop :=
  fun e w' => e = .returned (.int .i64 (restV way L s (fromOf L at_))) ∧ MapOk w' way L bm cnt ∧ w.grownBy w' (some bm)
set_option maxRecDepth 100000 in
set_option maxHeartbeats 4000000 in
theorem rest_step (way : Int) (pl : List Pl) (need : List Int) (pv nv : Value) (bm m : Nat) (hok : ∀ p ∈ pl, PlOk p) (hneed : NeedOk pl need)
    (IH : ∀ (s cnt : Nat) (at_ : Int) (w : World), (othersL s need.length (-1)).length < m → s < 256 → -1 ≤ at_ → at_ ≤ 8 → PlacesAt w pv pl → IntsAt w nv need → MapOk w way (needL pl need) bm cnt → cnt + cst m ≤ 1099511627776 →
      Calls Try.prog 39 #[.int .i64 way, pv, nv, .int .i64 (s : Nat), plV (fromOf (needL pl need) at_), .map (some bm), .int .i64 at_] w (RestR w way (needL pl need) bm (cnt + cst m) s at_))
    (s cnt : Nat) (at_ : Int) (w : World) (hs : s < 256) (hm : (othersL s need.length (-1)).length ≤ m) (h1 : -1 ≤ at_) (h2 : at_ ≤ 8) (hp : PlacesAt w pv pl) (hn : IntsAt w nv need) (hM : MapOk w way (needL pl need) bm cnt) (hc : cnt + cst (m + 1) ≤ 1099511627776) :
    Calls Try.prog 39 #[.int .i64 way, pv, nv, .int .i64 (s : Nat), plV (fromOf (needL pl need) at_), .map (some bm), .int .i64 at_] w (RestR w way (needL pl need) bm (cnt + cst (m + 1)) s at_) := by
  obtain ⟨a, c, rfl, hca, hma⟩ := hp.form
  obtain ⟨b, d, rfl, hcb, hmb⟩ := hn.1.form
  unfold maxLen at hma hmb
  have hfo := fromOf_ok (needL_ok hok (need := need)) at_
  have HF := hidep (show ∀ x, fromOf (needL pl need) at_ = x → fromOf (needL pl need) at_ = x from fun _ h => h)
  have HFO : Hid (∀ x, x = fromOf (needL pl need) at_ → x = fromOf (needL pl need) at_) := hidep (fun _ h => h)
  obtain ⟨F, hF⟩ : ∃ F, F = fromOf (needL pl need) at_ := ⟨_, rfl⟩
  rw [← hF] at hfo ⊢
  have HFE := hidep hF
  clear hF HF HFO
  obtain ⟨f0, f1, f2, f3, f4, f5⟩ := F
  unfold plV
  simp only
  have hfw : Fence.wide.fn 39 := trivial
  refine (callsIn_wide (n := 8)).1 ?_
  refine callsIn_of_wp_marks Try.func39 rfl hfw ?_ rfl
  simp only [Try.ntmps39, List.size_toArray, List.length_cons, List.length_nil, Nat.reduceAdd, Nat.reduceSub, Array.replicate_succ, Array.replicate_zero, List.push_toArray, List.append_toArray, List.nil_append, List.cons_append]
  by_cases h0 : s = 0
  · subst h0
    have HB := hidep (allocs_below [.cells #[.int .i64 way] 3, .cells #[.slice a pl.length c] 23, .cells #[.slice b need.length d] 22, .cells #[.int .i64 0] 3, .cells #[.int .i64 f0, .int .i64 f1, .int .i64 f2, .int .i64 f3, .int .i64 f4, .int .i64 f5] 26, .cells #[.map (some bm)] 68] w)
    gi_wp2
    refine ⟨_, results_tmp rfl _ _ _, ?_, (hM.below HB.out).mono (by omega), Turned.grown (T := fun b => b = bm) (Turned.of_below HB.out) (fun _ _ h => h)⟩
    rw [restV_zero]
    rfl
  · have h0' : ¬ (s : Int) = 0 := by omega
    obtain ⟨D, hown, hD⟩ := hM
    obtain ⟨kl, hkl⟩ := key_some s at_ (by omega) h1 h2
    have HX := hidep (allocs_below [.cells #[.int .i64 way] 3, .cells #[.slice a pl.length c] 23, .cells #[.slice b need.length d] 22, .cells #[.int .i64 (s : Nat)] 3, .cells #[.int .i64 f0, .int .i64 f1, .int .i64 f2, .int .i64 f3, .int .i64 f4, .int .i64 f5] 26, .cells #[.map (some bm)] 68, .cells #[.int .i64 (s : Nat), .int .i64 at_] 119] w)
    have HOX := hidep (hown.kept (row := none) ⟨HX.out.os, HX.out.tape, HX.out.output, HX.out.size, fun k hk _ => HX.out.block k hk⟩ (by simp))
    cases hhas : Maps.has D kl with
    | true =>
      have HV := hidep (hD s at_ kl (by omega) h1 h2 hkl hhas)
      gi_wp2_with (gi_at_lookup; refine wpListIn_lookup_own_ok_int _ rfl _ _ 68 rfl 119 3 .i64 keyed2 Try.underlying68 Try.underlying3 (zero_int _) bm cnt D rfl (by exact HOX.out) _ kl rfl hkl ?_; rw [hhas]; intro cc hat hwc)
      have hcc : cc = restV way (needL pl need) s (fromOf (needL pl need) at_) := by
        rw [HV.out] at hat
        injection hat with hat
        injection hat with _ hat
        exact hat.symm
      refine ⟨_, results_tmp rfl _ _ _, ret_val (congrArg _ hcc), (show MapOk w way (needL pl need) bm cnt from ⟨D, hown, hD⟩).below HX.out |>.mono (by omega), Turned.grown (T := fun b => b = bm) (Turned.of_below HX.out) (fun _ _ h => h)⟩
    | false =>
      gi_wp2_with (first
        | (gi_at_lookup; refine wpListIn_lookup_own_ok_int _ rfl _ _ 68 rfl 119 3 .i64 keyed2 Try.underlying68 Try.underlying3 (zero_int _) bm cnt D rfl (by exact HOX.out) _ kl rfl hkl ?_; rw [hhas]; intro cc hat hwc; clear hat hwc)
        | (refine ⟨trivial, ?_⟩; gi_at_call 40; refine (callsIn_wide.2 (others_any s need.length (-1) _)).mono ?_; rintro e w2 ⟨rfl, hO2, hs2, hb2⟩)
        | fail)
      have hfc : Fence.wide.fn 61 := trivial
      have hM : MapOk w way (needL pl need) bm cnt := ⟨D, hown, hD⟩
      have hbml := hM.lt
      have hb2' : Below (allocs w [.cells #[.int .i64 way] 3, .cells #[.slice a pl.length c] 23, .cells #[.slice b need.length d] 22, .cells #[.int .i64 (s : Nat)] 3, .cells #[.int .i64 f0, .int .i64 f1, .int .i64 f2, .int .i64 f3, .int .i64 f4, .int .i64 f5] 26, .cells #[.map (some bm)] 68, .cells #[.int .i64 (s : Nat), .int .i64 at_] 119, .cells #[.int .i64 (-1)] 3]).heap.size (allocs w [.cells #[.int .i64 way] 3, .cells #[.slice a pl.length c] 23, .cells #[.slice b need.length d] 22, .cells #[.int .i64 (s : Nat)] 3, .cells #[.int .i64 f0, .int .i64 f1, .int .i64 f2, .int .i64 f3, .int .i64 f4, .int .i64 f5] 26, .cells #[.map (some bm)] 68, .cells #[.int .i64 (s : Nat), .int .i64 at_] 119, .cells #[.int .i64 (-1)] 3]) w2 := hb2
      have hsz8 := allocs_size [.cells #[.int .i64 way] 3, .cells #[.slice a pl.length c] 23, .cells #[.slice b need.length d] 22, .cells #[.int .i64 (s : Nat)] 3, .cells #[.int .i64 f0, .int .i64 f1, .int .i64 f2, .int .i64 f3, .int .i64 f4, .int .i64 f5] 26, .cells #[.map (some bm)] 68, .cells #[.int .i64 (s : Nat), .int .i64 at_] 119, .cells #[.int .i64 (-1)] 3] w
      have hq := allocs_get [.cells #[.int .i64 way] 3, .cells #[.slice a pl.length c] 23, .cells #[.slice b need.length d] 22, .cells #[.int .i64 (s : Nat)] 3, .cells #[.int .i64 f0, .int .i64 f1, .int .i64 f2, .int .i64 f3, .int .i64 f4, .int .i64 f5] 26, .cells #[.map (some bm)] 68, .cells #[.int .i64 (s : Nat), .int .i64 at_] 119, .cells #[.int .i64 (-1)] 3] w
      have hy := allocs_below [.cells #[.int .i64 way] 3, .cells #[.slice a pl.length c] 23, .cells #[.slice b need.length d] 22, .cells #[.int .i64 (s : Nat)] 3, .cells #[.int .i64 f0, .int .i64 f1, .int .i64 f2, .int .i64 f3, .int .i64 f4, .int .i64 f5] 26, .cells #[.map (some bm)] 68, .cells #[.int .i64 (s : Nat), .int .i64 at_] 119, .cells #[.int .i64 (-1)] 3] w
      generalize allocs w [.cells #[.int .i64 way] 3, .cells #[.slice a pl.length c] 23, .cells #[.slice b need.length d] 22, .cells #[.int .i64 (s : Nat)] 3, .cells #[.int .i64 f0, .int .i64 f1, .int .i64 f2, .int .i64 f3, .int .i64 f4, .int .i64 f5] 26, .cells #[.map (some bm)] 68, .cells #[.int .i64 (s : Nat), .int .i64 at_] 119, .cells #[.int .i64 (-1)] 3] = wn at hb2' hsz8 hq hy
      simp only [List.length_cons, List.length_nil] at hsz8
      have hq' : ∀ i o, [.cells #[.int .i64 way] 3, .cells #[.slice a pl.length c] 23, .cells #[.slice b need.length d] 22, .cells #[.int .i64 (s : Nat)] 3, .cells #[.int .i64 f0, .int .i64 f1, .int .i64 f2, .int .i64 f3, .int .i64 f4, .int .i64 f5] 26, .cells #[.map (some bm)] 68, .cells #[.int .i64 (s : Nat), .int .i64 at_] 119, .cells #[.int .i64 (-1)] 3][i]? = some o → w2.heap[w.heap.size + i]? = some o := fun i o h => (hb2'.block _ (by have := (List.getElem?_eq_some_iff.1 h).1; simp at this; omega)).trans (hq i o h)
      have hwb : Below w.heap.size w w2 := hy.trans (hb2'.mono hy.size)
      clear hq hy hb2 hb2' hsz8
      simp only [World.size_alloc] at hO2 hs2
      have hwt : Turned (fun b => b = bm) w w2 := Turned.of_below hwb
      have hM2 := hM.below hwb
      have q0 := hq' 0 _ rfl
      have q1 := hq' 1 _ rfl
      have q2 := hq' 2 _ rfl
      have q3 := hq' 3 _ rfl
      have q4 := hq' 4 _ rfl
      have q5 := hq' 5 _ rfl
      have q6 := hq' 6 _ rfl
      have q7 := hq' 7 _ rfl
      clear hq'
      refine wpIn_rangeFunc_ownG rfl (by omega) (gf := 61) (lb := _) rfl hfc (enters_of Try.func61 (by kernel_rfl) rfl) (others_stops (8 - 1) (by omega) _ s need.length (-1) (by omega) hneed.1 (by omega) (by omega) w2 hO2) (fun h k => Kp3.trans h k) (Kp3.putObj (n := w2.heap.size) (by omega)) (Below.refl _ _) (fun _ => rfl)
        (fun pre W => Boxed W (w.heap.size + 7) 3 (.int .i64 (restFold way (needL pl need) s ⟨f0, f1, f2, f3, f4, f5⟩ (othV pre))) ∧ Turned (fun b => b = bm ∨ b = w.heap.size + 7) w2 W ∧ MapOk W way (needL pl need) bm (cnt + pre.length * cst m))
        (fun _ _ _ => False)
        (fun st A B row hs hg hr => ⟨hs.1.kept hg (fun e => by have := (hr _ e.symm).1; omega), hs.2.1.own hg (fun r e => (hr r e).1), hs.2.2.kept hg (fun e => by have := (hr _ e.symm).1; omega)⟩)
        (fun _ _ _ _ _ hs _ _ => hs)
        ⟨q7, Turned.refl _ _, by simpa using hM2⟩
        ?a1 ?assign ?body ?done ?stop
      case assign =>
        intro l x W K hK
        gi_wp2
        exact hK
      case body =>
        rintro l pre x W ⟨hbx, hT, hMW⟩ hlen
        obtain ⟨k, hkm⟩ := x
        obtain ⟨hkn, _, hkb⟩ := othersL_mem.1 hkm
        obtain ⟨i, hi, hni, hli⟩ := needL_get hneed hkn
        have hTw : Turned (fun b => b = bm) w W := (Turned.mono (T' := fun b => b = bm ∨ b = w.heap.size + 7) hwt (fun _ _ h => .inl h)).trans hT |>.mono (fun b hb h => by rcases h with h | h; exact h; omega)
        obtain ⟨es, ck, hmap⟩ := hM.isMap
        have hkW : Keeps (fun _ => True) w W := hTw.keeps (fun b hb cur t fz h => by subst hb; rw [hmap] at h; cases h)
        obtain ⟨es', ck', hmapW⟩ := hMW.isMap
        have hpW := Rd.keeps hp hkW
        have hnW : IntsAt W (.slice b need.length d) need := ⟨hn.1.keeps hkW, hn.2⟩
        obtain ⟨nb, no, rfl, hnbl, hnc⟩ := ints_get hnW hkn
        obtain ⟨pb, po, rfl, hpbl, p0, p1, p2, p3, p4, p5⟩ := PlacesAt.at hpW hi
        have hnm := cell_ne_map hnc hmapW
        have hpm := cell_ne_map p0 hmapW
        rw [hni] at hnc
        have hpi := lp_ok (needL_ok hok (need := need)) k
        have HLI := hidep hli
        rw [hli] at hpi
        generalize pl[i] = tp at *
        obtain ⟨t0, t1, t2, t3, t4, t5⟩ := tp
        simp only at p0 p1 p2 p3 p4 p5
        have c1 := box1_cell (hT.cells q1 (by omega))
        have c2 := box1_cell (hT.cells q2 (by omega))
        have HC1 := hidep (show ∀ X, Turned (fun b => b = bm) W X → X.cell? ⟨w.heap.size + 1, 0, none⟩ = some (.slice (some ⟨pb, po, none⟩) pl.length c) ∧ X.cell? ⟨w.heap.size + 1 + 1, 0, none⟩ = some (.slice (some ⟨nb, no, none⟩) need.length d) ∧
            X.cell? ⟨nb, no + k, none⟩ = some (.int .i64 (i : Nat)) ∧ X.cell? ⟨pb, po + i * 6, none⟩ = some (.int .i64 t0) ∧ X.cell? ⟨pb, po + i * 6 + 1, none⟩ = some (.int .i64 t1) ∧ X.cell? ⟨pb, po + i * 6 + 2, none⟩ = some (.int .i64 t2) ∧
            X.cell? ⟨pb, po + i * 6 + 3, none⟩ = some (.int .i64 t3) ∧ X.cell? ⟨pb, po + i * 6 + 4, none⟩ = some (.int .i64 t4) ∧ X.cell? ⟨pb, po + i * 6 + 5, none⟩ = some (.int .i64 t5) from fun X hX =>
          ⟨hX.cell c1 (by omega), hX.cell c2 (by omega), hX.cell hnc hnm, hX.cell p0 hpm, hX.cell p1 hpm, hX.cell p2 hpm, hX.cell p3 hpm, hX.cell p4 hpm, hX.cell p5 hpm⟩)
        have hk0 : (0 : Int) ≤ (k : Int) := by omega
        have hk1 : (k : Int) < (need.length : Int) := by omega
        have hi0 : (0 : Int) ≤ (i : Int) := by omega
        have hi1 : (i : Int) < (pl.length : Int) := by omega
        gi_wp2
        refine wpIn_region_round (S := (fun X => Turned (fun b => b = bm) W X)) (by kernel_rfl) (by kernel_rfl) (by rintro ⟨_, _, h⟩; exact h) ?hS39r10n0 (fun hHeld => ?hR39r10n0)
        case hS39r10n0 => ((try dsimp only); (exact (Turned.refl _ _).drew))
        refine wpAnyH_take (i := 0) (v := ?v39r10n0q1) rfl (by kernel_rfl) (by kernel_rfl) (by kernel_rfl) (fun _ _ _ h => h) (Or.inl ⟨by kernel_rfl, ?hy39r10n0q1⟩) (by assumption) ?hr39r10n0q1
        case hy39r10n0q1 => (intro w hSw; (try dsimp only at hSw); (obtain ⟨c1, c2, c3, c4, c5, c6, c7, c8, c9⟩ := HC1.out w hSw); first | (go_simp; done) | (go_simp; with_reducible rfl))
        refine wpAnyH_take (i := 1) (v := ?v39r10n0q2) rfl (by kernel_rfl) (by kernel_rfl) (by kernel_rfl) (fun _ _ _ h => h) (Or.inl ⟨by kernel_rfl, ?hy39r10n0q2⟩) (by assumption) ?hr39r10n0q2
        case hy39r10n0q2 => (intro w hSw; (try dsimp only at hSw); (obtain ⟨c1, c2, c3, c4, c5, c6, c7, c8, c9⟩ := HC1.out w hSw); first | (go_simp; done) | (go_simp; with_reducible rfl))
        refine wpAnyH_take (i := 2) (v := ?v39r10n0q3) rfl (by kernel_rfl) (by kernel_rfl) (by kernel_rfl) (fun _ _ _ h => h) (Or.inl ⟨by kernel_rfl, ?hy39r10n0q3⟩) (by assumption) ?hr39r10n0q3
        case hy39r10n0q3 => (intro w hSw; (try dsimp only at hSw); (obtain ⟨c1, c2, c3, c4, c5, c6, c7, c8, c9⟩ := HC1.out w hSw); first | (go_simp; done) | (go_simp; with_reducible rfl))
        refine wpAnyH_take (i := 3) (v := ?v39r10n0q4) rfl (by kernel_rfl) (by kernel_rfl) (by kernel_rfl) (fun _ _ _ h => h) (Or.inl ⟨by kernel_rfl, ?hy39r10n0q4⟩) (by assumption) ?hr39r10n0q4
        case hy39r10n0q4 => (intro w hSw; (try dsimp only at hSw); (obtain ⟨c1, c2, c3, c4, c5, c6, c7, c8, c9⟩ := HC1.out w hSw); first | (go_simp; done) | (go_simp; with_reducible rfl))
        refine wpAnyH_take (i := 4) (v := ?v39r10n0q5) rfl (by kernel_rfl) (by kernel_rfl) (by kernel_rfl) (fun _ _ _ h => h) (Or.inl ⟨by kernel_rfl, ?hy39r10n0q5⟩) (by assumption) ?hr39r10n0q5
        case hy39r10n0q5 => (intro w hSw; (try dsimp only at hSw); (obtain ⟨c1, c2, c3, c4, c5, c6, c7, c8, c9⟩ := HC1.out w hSw); first | (go_simp; done) | (go_simp; with_reducible rfl))
        refine wpAnyH_take (i := 5) (v := ?v39r10n0q6) rfl (by kernel_rfl) (by kernel_rfl) (by kernel_rfl) (fun _ _ _ h => h) (Or.inl ⟨by kernel_rfl, ?hy39r10n0q6⟩) (by assumption) ?hr39r10n0q6
        case hy39r10n0q6 => (intro w hSw; (try dsimp only at hSw); (obtain ⟨c1, c2, c3, c4, c5, c6, c7, c8, c9⟩ := HC1.out w hSw); first | (go_simp; done) | (go_simp; with_reducible rfl))
        refine wpAnyH_take (i := 6) (v := ?v39r10n0q7) rfl (by kernel_rfl) (by kernel_rfl) (by kernel_rfl) (fun _ _ _ h => h) (Or.inl ⟨by kernel_rfl, ?hy39r10n0q7⟩) (by assumption) ?hr39r10n0q7
        case hy39r10n0q7 => (intro w hSw; (try dsimp only at hSw); (obtain ⟨c1, c2, c3, c4, c5, c6, c7, c8, c9⟩ := HC1.out w hSw); first | (go_simp; done) | (go_simp; with_reducible rfl))
        refine wpAnyH_ready (rs := [7]) (by kernel_rfl) (by simp) (AllReadyH.cons rfl (fun K hK => ?hc39r10n0q8) AllReadyH.nil)
        go_simp
        refine hK.out _ _ ?hs39r10n0q8 (fun hHeld39r10n0q8 => ?ht39r10n0q8)
        case hs39r10n0q8 => ((try dsimp only); (first | exact hHeld.alloc _ | exact (Turned.refl _ _).drew.alloc _))
        clear hHeld hK
        have hHeld := hHeld39r10n0q8
        clear hHeld39r10n0q8
        refine wpAnyH_ready (rs := [8]) (by kernel_rfl) (by simp) (AllReadyH.cons rfl (fun K hK => ?hc39r10n0q9) AllReadyH.nil)
        go_simp
        refine hK.out _ _ ?hs39r10n0q9 (fun hHeld39r10n0q9 => ?ht39r10n0q9)
        case hs39r10n0q9 => ((try dsimp only); (first | exact hHeld.alloc _ | exact (Turned.refl _ _).drew.alloc _))
        clear hHeld hK
        have hHeld := hHeld39r10n0q9
        clear hHeld39r10n0q9
        refine wpAnyH_done (by kernel_rfl) ?_ _
        clear hHeld
        obtain ⟨Wb, hWb⟩ : ∃ Wb, Wb = (W.alloc (.cells #[.int .i64 t0, .int .i64 t1, .int .i64 t2, .int .i64 t3, .int .i64 t4, .int .i64 t5] 26)).drew := ⟨_, rfl⟩
        have hTb : Turned (fun b => b = bm) W Wb := by rw [hWb]; exact ((Turned.refl _ _).alloc _).drew
        have hcb : Wb.heap[W.heap.size]? = some (.cells #[.int .i64 t0, .int .i64 t1, .int .i64 t2, .int .i64 t3, .int .i64 t4, .int .i64 t5] 26) := by rw [hWb]; exact heap_alloc_new W _
        have hMb : MapOk Wb way (needL pl need) bm (cnt + pre.length * cst m) := by rw [hWb]; exact (hMW.kept (World.grownBy_alloc W _ none) (by simp) : MapOk (W.alloc _) way (needL pl need) bm _)
        rw [← hWb]
        have hbs : W.heap.size < Wb.heap.size := lt_of_block hcb
        clear hWb
        have hbmW := hMW.lt
        have HC2 := hidep (show ∀ X, Turned (fun b => b = bm) Wb X → X.cell? ⟨w.heap.size, 0, none⟩ = some (.int .i64 way) ∧ X.cell? ⟨w.heap.size + 1, 0, none⟩ = some (.slice (some ⟨pb, po, none⟩) pl.length c) ∧ X.cell? ⟨w.heap.size + 1 + 1, 0, none⟩ = some (.slice (some ⟨nb, no, none⟩) need.length d) ∧
            X.cell? ⟨w.heap.size + 1 + 1 + 1, 0, none⟩ = some (.int .i64 (s : Nat)) ∧ X.heap[w.heap.size + 1 + 1 + 1 + 1]? = some (.cells #[.int .i64 f0, .int .i64 f1, .int .i64 f2, .int .i64 f3, .int .i64 f4, .int .i64 f5] 26) ∧ X.cell? ⟨w.heap.size + 1 + 1 + 1 + 1 + 1, 0, none⟩ = some (.map (some bm)) ∧
            X.heap[W.heap.size]? = some (.cells #[.int .i64 t0, .int .i64 t1, .int .i64 t2, .int .i64 t3, .int .i64 t4, .int .i64 t5] 26) from fun X hX =>
          have hX2 := (hT.trans ((hTb.trans hX).mono (fun _ _ h => .inl h)))
          ⟨box1_cell (hX2.cells q0 (by omega)), (hTb.trans hX).cell c1 (by omega), (hTb.trans hX).cell c2 (by omega), box1_cell (hX2.cells q3 (by omega)), hX2.cells q4 (by omega), box1_cell (hX2.cells q5 (by omega)), hX.cells hcb (by omega)⟩)
        have HAN := hidep (andNot_bit s hs k (by have := hneed.1; omega) hkb)
        have hcs : cnt + pre.length * cst m + cst m ≤ 1099511627776 := by
          have h8 : pre.length + 1 ≤ 8 := by have := othersL_len s need.length (-1); have := hneed.1; omega
          have : (pre.length + 1) * cst m ≤ 8 * cst m := Nat.mul_le_mul_right _ h8
          rw [Nat.add_mul, Nat.one_mul] at this
          rw [cst] at hc
          omega
        have HREST := hidep (show ∀ X, Turned (fun b => b = bm) Wb X → MapOk X way (needL pl need) bm (cnt + pre.length * cst m) →
            Calls Try.prog 39 #[.int .i64 way, .slice (some ⟨pb, po, none⟩) pl.length c, .slice (some ⟨nb, no, none⟩) need.length d, .int .i64 (bits BinOp.andNot IntKind.i64 ((s : Nat) : Int) (IntKind.i64.wrap (2 ^ min k 64))), .agg #[.int .i64 t0, .int .i64 t1, .int .i64 t2, .int .i64 t3, .int .i64 t4, .int .i64 t5], .map (some bm), .int .i64 (k : Nat)] X
              (RestR X way (needL pl need) bm (cnt + pre.length * cst m + cst m) (s - 2 ^ k) (k : Nat)) from fun X hX hMX => by
          have hWX := hTb.trans hX
          have hkX : Keeps (fun _ => True) W X := hWX.keeps (fun b hb cur t fz h => by subst hb; rw [hmapW] at h; cases h)
          have := IH (s - 2 ^ k) (cnt + pre.length * cst m) (k : Nat) X (Nat.lt_of_lt_of_le (others_fewer hs hneed.1 hkm) hm) (Nat.lt_of_le_of_lt (Nat.sub_le _ _) hs) (by omega) (by have := hneed.1; omega) (Rd.keeps hpW hkX) ⟨hnW.1.keeps hkX, hnW.2⟩ hMX hcs
          rw [HAN.out]
          have hfk : fromOf (needL pl need) ((k : Nat) : Int) = ⟨t0, t1, t2, t3, t4, t5⟩ := by
            unfold fromOf
            rw [if_neg (by omega), Int.toNat_natCast, HLI.out]
          rw [hfk] at this
          exact this)
        have hcbd := costZ_bd (way := way) hfo hpi
        have hrbd := restV_bd (way := way) (needL_ok hok (need := need)) (s := s - 2 ^ k) (Nat.lt_of_le_of_lt (Nat.sub_le _ _) (by omega)) (fromOf_ok (needL_ok hok (need := need)) (k : Nat))
        have hwrp : IntKind.i64.wrap (costZ way ⟨f0, f1, f2, f3, f4, f5⟩ ⟨t0, t1, t2, t3, t4, t5⟩ + restV way (needL pl need) (s - 2 ^ k) (fromOf (needL pl need) (k : Nat))) = costZ way ⟨f0, f1, f2, f3, f4, f5⟩ ⟨t0, t1, t2, t3, t4, t5⟩ + restV way (needL pl need) (s - 2 ^ k) (fromOf (needL pl need) (k : Nat)) := IntWalk.i64_in _ (by omega)
        have HCOST := hidep (fun X => rcost_any way ⟨f0, f1, f2, f3, f4, f5⟩ ⟨t0, t1, t2, t3, t4, t5⟩ X hfo hpi)
        gi_wp2
        refine wpIn_region_round (S := (fun X => Turned (fun b => b = bm) Wb X)) (by kernel_rfl) (by kernel_rfl) (by rintro ⟨_, _, h⟩; exact h) ?hS39r11n1 (fun hHeld => ?hR39r11n1)
        case hS39r11n1 => ((try dsimp only); (exact (Turned.refl _ _).drew))
        refine wpAnyH_take (i := 0) (v := ?v39r11n1q1) rfl (by kernel_rfl) (by kernel_rfl) (by kernel_rfl) (fun _ _ _ h => h) (Or.inl ⟨by kernel_rfl, ?hy39r11n1q1⟩) (by assumption) ?hr39r11n1q1
        case hy39r11n1q1 => (intro w hSw; (try dsimp only at hSw); (obtain ⟨c1, c2, c3, c4, c5, c6, c7⟩ := HC2.out w hSw; obtain ⟨d0, d1, d2, d3, d4, d5⟩ := box6_cells c5; obtain ⟨e0, e1, e2, e3, e4, e5⟩ := box6_cells c7); first | (go_simp; done) | (go_simp; with_reducible rfl))
        refine wpAnyH_take (i := 1) (v := ?v39r11n1q2) rfl (by kernel_rfl) (by kernel_rfl) (by kernel_rfl) (fun _ _ _ h => h) (Or.inl ⟨by kernel_rfl, ?hy39r11n1q2⟩) (by assumption) ?hr39r11n1q2
        case hy39r11n1q2 => (intro w hSw; (try dsimp only at hSw); (obtain ⟨c1, c2, c3, c4, c5, c6, c7⟩ := HC2.out w hSw; obtain ⟨d0, d1, d2, d3, d4, d5⟩ := box6_cells c5; obtain ⟨e0, e1, e2, e3, e4, e5⟩ := box6_cells c7); first | (go_simp; done) | (go_simp; with_reducible rfl))
        refine wpAnyH_take (i := 2) (v := ?v39r11n1q3) rfl (by kernel_rfl) (by kernel_rfl) (by kernel_rfl) (fun _ _ _ h => h) (Or.inl ⟨by kernel_rfl, ?hy39r11n1q3⟩) (by assumption) ?hr39r11n1q3
        case hy39r11n1q3 => (intro w hSw; (try dsimp only at hSw); (obtain ⟨c1, c2, c3, c4, c5, c6, c7⟩ := HC2.out w hSw; obtain ⟨d0, d1, d2, d3, d4, d5⟩ := box6_cells c5; obtain ⟨e0, e1, e2, e3, e4, e5⟩ := box6_cells c7); first | (go_simp; done) | (go_simp; with_reducible rfl))
        refine wpAnyH_take (i := 4) (v := ?v39r11n1q4) rfl (by kernel_rfl) (by kernel_rfl) (by kernel_rfl) (fun _ _ _ h => h) (Or.inl ⟨by kernel_rfl, ?hy39r11n1q4⟩) (by assumption) ?hr39r11n1q4
        case hy39r11n1q4 => (intro w hSw; (try dsimp only at hSw); (obtain ⟨c1, c2, c3, c4, c5, c6, c7⟩ := HC2.out w hSw; obtain ⟨d0, d1, d2, d3, d4, d5⟩ := box6_cells c5; obtain ⟨e0, e1, e2, e3, e4, e5⟩ := box6_cells c7); first | (go_simp; done) | (go_simp; with_reducible rfl))
        refine wpAnyH_take (i := 5) (v := ?v39r11n1q5) rfl (by kernel_rfl) (by kernel_rfl) (by kernel_rfl) (fun _ _ _ h => h) (Or.inl ⟨by kernel_rfl, ?hy39r11n1q5⟩) (by assumption) ?hr39r11n1q5
        case hy39r11n1q5 => (intro w hSw; (try dsimp only at hSw); (obtain ⟨c1, c2, c3, c4, c5, c6, c7⟩ := HC2.out w hSw; obtain ⟨d0, d1, d2, d3, d4, d5⟩ := box6_cells c5; obtain ⟨e0, e1, e2, e3, e4, e5⟩ := box6_cells c7); first | (go_simp; done) | (go_simp; with_reducible rfl))
        refine wpAnyH_take (i := 6) (v := ?v39r11n1q6) rfl (by kernel_rfl) (by kernel_rfl) (by kernel_rfl) (fun _ _ _ h => h) (Or.inl ⟨by kernel_rfl, ?hy39r11n1q6⟩) (by assumption) ?hr39r11n1q6
        case hy39r11n1q6 => (intro w hSw; (try dsimp only at hSw); (obtain ⟨c1, c2, c3, c4, c5, c6, c7⟩ := HC2.out w hSw; obtain ⟨d0, d1, d2, d3, d4, d5⟩ := box6_cells c5; obtain ⟨e0, e1, e2, e3, e4, e5⟩ := box6_cells c7); first | (go_simp; done) | (go_simp; with_reducible rfl))
        refine wpAnyH_take (i := 7) (v := ?v39r11n1q7) rfl (by kernel_rfl) (by kernel_rfl) (by kernel_rfl) (fun _ _ _ h => h) (Or.inl ⟨by kernel_rfl, ?hy39r11n1q7⟩) (by assumption) ?hr39r11n1q7
        case hy39r11n1q7 => (intro w hSw; (try dsimp only at hSw); (obtain ⟨c1, c2, c3, c4, c5, c6, c7⟩ := HC2.out w hSw; obtain ⟨d0, d1, d2, d3, d4, d5⟩ := box6_cells c5; obtain ⟨e0, e1, e2, e3, e4, e5⟩ := box6_cells c7); first | (go_simp; done) | (go_simp; with_reducible rfl))
        refine wpAnyH_take (i := 8) (v := ?v39r11n1q8) rfl (by kernel_rfl) (by kernel_rfl) (by kernel_rfl) (fun _ _ _ h => h) (Or.inl ⟨by kernel_rfl, ?hy39r11n1q8⟩) (by assumption) ?hr39r11n1q8
        case hy39r11n1q8 => (intro w hSw; (try dsimp only at hSw); (obtain ⟨c1, c2, c3, c4, c5, c6, c7⟩ := HC2.out w hSw; obtain ⟨d0, d1, d2, d3, d4, d5⟩ := box6_cells c5; obtain ⟨e0, e1, e2, e3, e4, e5⟩ := box6_cells c7); first | (go_simp; done) | (go_simp; with_reducible rfl))
        refine wpAnyH_take (i := 9) (v := ?v39r11n1q9) rfl (by kernel_rfl) (by kernel_rfl) (by kernel_rfl) (fun _ _ _ h => h) (Or.inl ⟨by kernel_rfl, ?hy39r11n1q9⟩) (by assumption) ?hr39r11n1q9
        case hy39r11n1q9 => (intro w hSw; (try dsimp only at hSw); (obtain ⟨c1, c2, c3, c4, c5, c6, c7⟩ := HC2.out w hSw; obtain ⟨d0, d1, d2, d3, d4, d5⟩ := box6_cells c5; obtain ⟨e0, e1, e2, e3, e4, e5⟩ := box6_cells c7); first | (go_simp; done) | (go_simp; with_reducible rfl))
        refine wpAnyH_take (i := 10) (v := ?v39r11n1q10) rfl (by kernel_rfl) (by kernel_rfl) (by kernel_rfl) (fun _ _ _ h => h) (Or.inl ⟨by kernel_rfl, ?hy39r11n1q10⟩) (by assumption) ?hr39r11n1q10
        case hy39r11n1q10 => (intro w hSw; (try dsimp only at hSw); (obtain ⟨c1, c2, c3, c4, c5, c6, c7⟩ := HC2.out w hSw; obtain ⟨d0, d1, d2, d3, d4, d5⟩ := box6_cells c5; obtain ⟨e0, e1, e2, e3, e4, e5⟩ := box6_cells c7); first | (go_simp; done) | (go_simp; with_reducible rfl))
        refine wpAnyH_take (i := 11) (v := ?v39r11n1q11) rfl (by kernel_rfl) (by kernel_rfl) (by kernel_rfl) (fun _ _ _ h => h) (Or.inl ⟨by kernel_rfl, ?hy39r11n1q11⟩) (by assumption) ?hr39r11n1q11
        case hy39r11n1q11 => (intro w hSw; (try dsimp only at hSw); (obtain ⟨c1, c2, c3, c4, c5, c6, c7⟩ := HC2.out w hSw; obtain ⟨d0, d1, d2, d3, d4, d5⟩ := box6_cells c5; obtain ⟨e0, e1, e2, e3, e4, e5⟩ := box6_cells c7); first | (go_simp; done) | (go_simp; with_reducible rfl))
        refine wpAnyH_take (i := 12) (v := ?v39r11n1q12) rfl (by kernel_rfl) (by kernel_rfl) (by kernel_rfl) (fun _ _ _ h => h) (Or.inl ⟨by kernel_rfl, ?hy39r11n1q12⟩) (by assumption) ?hr39r11n1q12
        case hy39r11n1q12 => (intro w hSw; (try dsimp only at hSw); (obtain ⟨c1, c2, c3, c4, c5, c6, c7⟩ := HC2.out w hSw; obtain ⟨d0, d1, d2, d3, d4, d5⟩ := box6_cells c5; obtain ⟨e0, e1, e2, e3, e4, e5⟩ := box6_cells c7); first | (go_simp; done) | (go_simp; with_reducible rfl))
        refine wpAnyH_take (i := 13) (v := ?v39r11n1q13) rfl (by kernel_rfl) (by kernel_rfl) (by kernel_rfl) (fun _ _ _ h => h) (Or.inl ⟨by kernel_rfl, ?hy39r11n1q13⟩) (by assumption) ?hr39r11n1q13
        case hy39r11n1q13 => (intro w hSw; (try dsimp only at hSw); (obtain ⟨c1, c2, c3, c4, c5, c6, c7⟩ := HC2.out w hSw; obtain ⟨d0, d1, d2, d3, d4, d5⟩ := box6_cells c5; obtain ⟨e0, e1, e2, e3, e4, e5⟩ := box6_cells c7); first | (go_simp; done) | (go_simp; with_reducible rfl))
        refine wpAnyH_ready (rs := [3]) (by kernel_rfl) (by simp) (AllReadyH.cons rfl (fun K hK => ?hc39r11n1q14) AllReadyH.nil)
        go_simp
        (go_at_call 12; refine (HCOST.out _).mono ?_; rintro e w3 ⟨rfl, hb3⟩; (try dsimp only); have hM3 := MapOk.below (w := Wb.drew) hMb hb3)
        refine hK.out _ _ ?hs39r11n1q14 (fun hHeld39r11n1q14 => ?ht39r11n1q14)
        case hs39r11n1q14 => ((try dsimp only); (first | exact hHeld.below hb3 | exact hHeld.trans (Turned.of_grown hg4 rfl)))
        clear hHeld hK
        have hHeld := hHeld39r11n1q14
        clear hHeld39r11n1q14
        refine wpAnyH_ready (rs := [14]) (by kernel_rfl) (by simp) (AllReadyH.cons rfl (fun K hK => ?hc39r11n1q15) AllReadyH.nil)
        go_simp
        (go_at_call 39; refine (HREST.out _ hHeld hM3).mono ?_; rintro e w4 ⟨rfl, hM4, hg4⟩; (try dsimp only))
        refine hK.out _ _ ?hs39r11n1q15 (fun hHeld39r11n1q15 => ?ht39r11n1q15)
        case hs39r11n1q15 => ((try dsimp only); (first | exact hHeld.below hb3 | exact hHeld.trans (Turned.of_grown hg4 rfl)))
        clear hHeld hK
        have hHeld := hHeld39r11n1q15
        clear hHeld39r11n1q15
        refine wpAnyH_take (i := 15) (v := ?v39r11n1q16) rfl (by kernel_rfl) (by kernel_rfl) (by kernel_rfl) (fun _ _ _ h => h) (Or.inl ⟨by kernel_rfl, ?hy39r11n1q16⟩) (by assumption) ?hr39r11n1q16
        case hy39r11n1q16 => (intro w hSw; (try dsimp only at hSw); (obtain ⟨c1, c2, c3, c4, c5, c6, c7⟩ := HC2.out w hSw; obtain ⟨d0, d1, d2, d3, d4, d5⟩ := box6_cells c5; obtain ⟨e0, e1, e2, e3, e4, e5⟩ := box6_cells c7); first | (go_simp; done) | (go_simp; with_reducible rfl))
        refine wpAnyH_take (i := 16) (v := ?v39r11n1q17) rfl (by kernel_rfl) (by kernel_rfl) (by kernel_rfl) (fun _ _ _ h => h) (Or.inl ⟨by kernel_rfl, ?hy39r11n1q17⟩) (by assumption) ?hr39r11n1q17
        case hy39r11n1q17 => (intro w hSw; (try dsimp only at hSw); (obtain ⟨c1, c2, c3, c4, c5, c6, c7⟩ := HC2.out w hSw; obtain ⟨d0, d1, d2, d3, d4, d5⟩ := box6_cells c5; obtain ⟨e0, e1, e2, e3, e4, e5⟩ := box6_cells c7); first | (go_simp; done) | (go_simp; with_reducible rfl))
        refine wpAnyH_done (by kernel_rfl) ?_ _
        clear hHeld
        have hT4 := ((Turned.refl (fun b => b = bm) Wb).drew.below hb3).trans (Turned.of_grown hg4 rfl)
        have hTW4 := hTb.trans hT4
        have hbx4 : Boxed w4 (w.heap.size + 1 + 1 + 1 + 1 + 1 + 1 + 1) 3 (.int .i64 (restFold way (needL pl need) s ⟨f0, f1, f2, f3, f4, f5⟩ (othV pre))) := hTW4.cells hbx (by omega)
        have HFIN := hidep (show restFold way (needL pl need) s ⟨f0, f1, f2, f3, f4, f5⟩ (othV (pre ++ [⟨k, hkm⟩])) = takeZ (restFold way (needL pl need) s ⟨f0, f1, f2, f3, f4, f5⟩ (othV pre)) (costZ way ⟨f0, f1, f2, f3, f4, f5⟩ ⟨t0, t1, t2, t3, t4, t5⟩ + restV way (needL pl need) (s - 2 ^ k) (fromOf (needL pl need) (k : Nat))) by
          rw [othV_snoc, restFold_snoc, HLI.out]
          unfold fromOf
          rw [if_neg (by omega), Int.toNat_natCast, HLI.out])
        have HMN : Hid (MapOk w4 way (needL pl need) bm (cnt + (pre ++ [(⟨k, hkm⟩ : OthE s need.length (-1))]).length * cst m)) := hidep (hM4.mono (by simp [Nat.add_mul]; omega))
        have hTT := (hT.trans (hTW4.mono (T' := fun b => b = bm ∨ b = w.heap.size + 7) (fun _ _ h => .inl h)))
        have HKF : Hid (KeepsFrom w2.heap.size W w4 ∧ Kp3 (w.heap.size + 1 + 1 + 1 + 1 + 1 + 1 + 1 + 1) W w4) := hidep ⟨hTW4.from (fun b hb h => by omega), hTW4.kp3 (by have := hT.size; omega) (fun b h1 h2 h => by omega)⟩
        clear hcbd hrbd hwrp hcs HC1 HC2 HCOST HREST HAN
        generalize restFold way (needL pl need) s ⟨f0, f1, f2, f3, f4, f5⟩ (othV pre) = least at *
        generalize costZ way ⟨f0, f1, f2, f3, f4, f5⟩ ⟨t0, t1, t2, t3, t4, t5⟩ + restV way (needL pl need) (s - 2 ^ k) (fromOf (needL pl need) (k : Nat)) = v at *
        have hc4 := hbx4.cell
        have hf4 := hbx4.frozen
        by_cases hl0 : least < 0
        · have hv : takeZ least v = v := if_pos (.inl hl0)
          gi_wp2
          exact ⟨⟨by simpa [World.setCell] using HKF.out.1.size, fun q o hq ho hoc => (Below.heap_setCell w4 ⟨w.heap.size + 1 + 1 + 1 + 1 + 1 + 1 + 1, 0, none⟩ _ _ (by have := hT.size; simp only; omega)).trans (HKF.out.1.same q o (by first | exact hq | (rw [hs2]; exact hq)) ho hoc)⟩, fun q h1 h2 => (Below.heap_setCell w4 ⟨w.heap.size + 1 + 1 + 1 + 1 + 1 + 1 + 1, 0, none⟩ _ _ (by simp only; omega)).trans (HKF.out.2 q h1 h2), by rw [HFIN.out, hv]; exact hbx4.set _, hTT.setCell _ _ (.inr (.inr rfl)), HMN.out.kept (grownBy_setCell' _ _ _) (by simp; omega)⟩
        · have hl0' : 0 ≤ least := by omega
          by_cases hlv : v < least
          · have hv : takeZ least v = v := if_pos (.inr hlv)
            gi_wp2
            exact ⟨⟨by simpa [World.setCell] using HKF.out.1.size, fun q o hq ho hoc => (Below.heap_setCell w4 ⟨w.heap.size + 1 + 1 + 1 + 1 + 1 + 1 + 1, 0, none⟩ _ _ (by have := hT.size; simp only; omega)).trans (HKF.out.1.same q o (by first | exact hq | (rw [hs2]; exact hq)) ho hoc)⟩, fun q h1 h2 => (Below.heap_setCell w4 ⟨w.heap.size + 1 + 1 + 1 + 1 + 1 + 1 + 1, 0, none⟩ _ _ (by simp only; omega)).trans (HKF.out.2 q h1 h2), by rw [HFIN.out, hv]; exact hbx4.set _, hTT.setCell _ _ (.inr (.inr rfl)), HMN.out.kept (grownBy_setCell' _ _ _) (by simp; omega)⟩
          · have hv : takeZ least v = least := if_neg (by omega)
            have hlv' : least ≤ v := by omega
            gi_wp2
            exact ⟨by first | exact HKF.out.1 | (rw [← hs2]; exact HKF.out.1), HKF.out.2, by rw [HFIN.out, hv]; exact hbx4, hTT, HMN.out⟩
      case stop =>
        intro D cd pre W _ _ h _
        exact h.elim
      case done =>
        rintro D ys W hD hys ⟨hbx, hT, hMW⟩ hK
        rw [hys] at hbx
        have hlen8 : ys.length ≤ 8 := by
          have h1 : (othV ys).length = ys.length := by simp [othV]
          have := othersL_len s need.length (-1)
          have := hneed.1
          rw [hys] at h1
          omega
        have hval : restFold way (needL pl need) s ⟨f0, f1, f2, f3, f4, f5⟩ (othersL s need.length (-1)) = restV way (needL pl need) s (fromOf (needL pl need) at_) := by
          rw [restV_eq way _ s _ h0, needL_len, HFE.out]
          rfl
        have hTw : Turned (fun b => b = bm) w W := (Turned.mono (T' := fun b => b = bm ∨ b = w.heap.size + 7) hwt (fun _ _ h => .inl h)).trans hT |>.mono (fun b hb h => by rcases h with h | h; exact h; omega)
        obtain ⟨D1, hown1, hD1⟩ := hMW
        have hsW := hT.size
        have hc5 := box1_cell (hT.cells q5 (by omega))
        have hc6 : W.heap[w.heap.size + 1 + 1 + 1 + 1 + 1 + 1]? = some (.cells #[.int .i64 (s : Nat), .int .i64 at_] 119) := hT.cells q6 (by omega)
        have hc6a : W.cell? ⟨w.heap.size + 1 + 1 + 1 + 1 + 1 + 1, 0, none⟩ = some (.int .i64 (s : Nat)) := by simp [World.cell?, hc6]
        have hc6b : W.cell? ⟨w.heap.size + 1 + 1 + 1 + 1 + 1 + 1, 1, none⟩ = some (.int .i64 at_) := by simp [World.cell?, hc6]
        have hc7 := hbx.cell
        have HVAL := hidep hval
        clear hval
        generalize restFold way (needL pl need) s ⟨f0, f1, f2, f3, f4, f5⟩ (othersL s need.length (-1)) = rv at *
        have hrvb := restV_bd (way := way) (needL_ok hok (need := need)) (s := s) (by omega) (fromOf_ok (needL_ok hok (need := need)) at_)
        rw [← HVAL.out] at hrvb
        have hcm : ys.length * cst m ≤ 8 * cst m := Nat.mul_le_mul_right _ hlen8
        rw [cst] at hc
        have hroom : cnt + ys.length * cst m < maxLen := by unfold maxLen; omega
        gi_wp2_with (first
          | (gi_at_mapUpdate; refine wpListIn_mapUpdate_own _ rfl _ _ _ 68 rfl 119 3 keyed2 Try.underlying68 (plainElem Try.prog 3) bm _ D1 rfl hown1 hroom _ _ kl rfl rfl hkl (.lit (.int .i64 rv)) [] (plainElem_int Try.underlying3 (WalkArith.wf_i64 (by omega))) ?_; intro W5 hown5 hgrow5; have hc75 := (Boxed.kept hbx hgrow5 (by simp; omega)).cell)
          | fail)
        have hK5 := (hgrow5.block D (lt_of_block hK) (by simp; omega)).trans hK
        have hM5 : MapOk W5 way (needL pl need) bm (cnt + ys.length * cst m + 1) := MapOk.put hown1 hD1 hkl (by rw [HVAL.out] at hown5; exact hown5)
        refine ⟨by simp, .inl ⟨_, _, rfl, run_takeDeferred hK5, ?_⟩⟩
        have hgP := grownBy_putObj' W5 D (.deferred none)
        refine ⟨_, results_tmp rfl _ _ _, ret_val (congrArg _ HVAL.out), (hM5.kept hgP (by simp; omega)).mono (by rw [cst]; omega), ?_⟩
        have hT5 : Turned (fun b => b = bm) w W5 := hTw.trans (Turned.of_grown hgrow5 rfl)
        exact Turned.grown (T := fun b => b = bm) (hT5.own hgP (fun r e => by cases e; omega)) (fun _ _ h => h)
theorem rest_any (way : Int) (pl : List Pl) (need : List Int) (pv nv : Value) (bm : Nat) (hok : ∀ p ∈ pl, PlOk p) (hneed : NeedOk pl need) :
    ∀ (m s cnt : Nat) (at_ : Int) (w : World), (othersL s need.length (-1)).length ≤ m → s < 256 → -1 ≤ at_ → at_ ≤ 8 → PlacesAt w pv pl → IntsAt w nv need → MapOk w way (needL pl need) bm cnt → cnt + cst (m + 1) ≤ 1099511627776 →
      Calls Try.prog 39 #[.int .i64 way, pv, nv, .int .i64 (s : Nat), plV (fromOf (needL pl need) at_), .map (some bm), .int .i64 at_] w (RestR w way (needL pl need) bm (cnt + cst (m + 1)) s at_)
  | 0, s, cnt, at_, w, hm, hs, h1, h2, hp, hn, hM, hc => rest_step way pl need pv nv bm 0 hok hneed (fun _ _ _ _ h => absurd h (Nat.not_lt_zero _)) s cnt at_ w hs hm h1 h2 hp hn hM hc
  | m + 1, s, cnt, at_, w, hm, hs, h1, h2, hp, hn, hM, hc => rest_step way pl need pv nv bm (m + 1) hok hneed (fun s cnt at_ w hlt hs h1 h2 hp hn hM hc => rest_any way pl need pv nv bm hok hneed m s cnt at_ w (Nat.le_of_lt_succ hlt) hs h1 h2 hp hn hM hc) s cnt at_ w hs hm h1 h2 hp hn hM hc
end Go.Proofs.Ytfljgcpfmhhgcaa
