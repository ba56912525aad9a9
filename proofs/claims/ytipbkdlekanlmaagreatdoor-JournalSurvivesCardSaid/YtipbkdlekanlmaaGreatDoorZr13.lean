/- Journal: the code's parts: a loop over the sectors of a record. -/
import Derived.Test.YtipbkdlekanlmaaGreatDoorZr11
import Derived.Test.YtipbkdlekanlmaaGreatDoorZr12
import Derived.Test.YtipbkdlekanlmaaGreatDoorZr09
namespace Go.Proofs.YtipbkdlekanlmaaGreatDoor
open Go.RowKit Go.Lab Go.Jn Go.Disk
attribute [local go_sem] Oper.semAt_some
set_option maxRecDepth 100000
theorem step_copy {P : Program} {ops : Array Oper} {o : Oper} {a : Act} {w : World} {K : Act → World → Prop} {Q : Exit → Act → World → Prop} {E : Prop}
    (hg : o.guard = none) (d x : Operand) (dT sT : TypeId) (hop : o.op = Op.call { callee := Callee.builtin Builtin.copy, args := #[d, x], argTypes := #[dT, sT] })
    (v u : Value) (hd : a.eval d = v) (hx : a.eval x = u) {v' : Value} {w' : World} (hr : (Builtin.copy_ #[dT, sT] o.type #[v, u]).run P w = .ok v' w') (hK : K (a.put o.dst v') w') :
    if Region.wanted o (yielded ops a.tmps) = true then Oper.wp P o a w K Q else E := by
  have hw : Region.wanted o (yielded ops a.tmps) = true := by simp [Region.wanted, hg]
  rw [if_pos hw]
  unfold Oper.wp
  simp [execOp, hop, resolve, invoke, builtin, hd, hx, hr, Result.andThen]
  exact hK
theorem wpListIn_load_mid {F : Fence} {n : Nat} {P : Program} {ops : Array Oper} {rest : List Oper} {op : Oper} {a : Act} {w : World} {Q : Exit → Act → World → Prop} (hgd : op.guard = none) (ty : TypeId) (x : Operand) (ho : op.op = .load ty x)
    (b o : Nat) (hx : a.eval x = .pointer (some ⟨b, o, none⟩)) (cs : List Value) (d : TypeDesc) (hc : w.rangeAt b o cs) (hu : P.underlying ty = some d) (hd : d.isRow = true) (hi : (P.info? ty).map (·.size) = some cs.length)
    (h : wpListIn F n P ops Q rest (a.put op.dst (.agg cs.toArray)) w) : wpListIn F n P ops Q (op :: rest) a w := by
  refine wpListIn_plain hgd fun K hK => ?_
  unfold Oper.wpIn
  refine ⟨by simp [Oper.about, ho], ?_⟩
  rw [Oper.semAt_plain F _ _ (by rw [ho]; intro c hc'; cases hc')]
  unfold execOp
  simp only [ho, hx, Instr.loadAt, Instr.sureAddr, Sem.run_bind, Sem.run_pure, Result.andThen_ok, run_loadVar_mid w b o ty cs d hc hu hd hi]
  exact hK _ _ h
theorem wpListIn_move {F : Fence} {n : Nat} {P : Program} {ops : Array Oper} {rest : List Oper} {op : Oper} {a : Act} {w : World} {Q : Exit → Act → World → Prop} (hgd : op.guard = none) (x : Operand) (ho : op.op = .move x)
    (h : wpListIn F n P ops Q rest (a.put op.dst (a.eval x)) w) : wpListIn F n P ops Q (op :: rest) a w := by
  refine wpListIn_plain hgd fun K hK => ?_
  unfold Oper.wpIn
  refine ⟨by simp [Oper.about, ho], ?_⟩
  rw [Oper.semAt_plain F _ _ (by rw [ho]; intro c hc'; cases hc')]
  unfold execOp
  simp only [ho, Sem.run_pure]
  exact hK _ _ h
theorem abides_below {β : Type} {B : Nat} {J : β → World → Prop} (h : AbidesFrom B J) {s : β} {W W' : World} (hs : J s W) (hb : Below W.heap.size W W') : J s W' :=
  h s W W' none hs ⟨hb.os, hb.tape, hb.output, hb.size, fun k hk _ => hb.block k hk⟩ (fun r e => by cases e)
theorem zero_sect (w : World) : (zeroValue 96).run Tryz.prog w = .ok (.agg (byC (List.replicate 64 0)).toArray) w := by kernel_rfl
theorem row_sect : (∃ d, Tryz.prog.underlying 96 = some d ∧ d.isRow = true) ∧ (Tryz.prog.info? 96).map (·.size) = some 64 := ⟨under_row (by kernel_rfl), by kernel_rfl⟩
theorem range_map41 (f : Nat → Value) : (List.range 41).map f = [f 0, f 1, f 2, f 3, f 4, f 5, f 6, f 7, f 8, f 9, f 10, f 11, f 12, f 13, f 14, f 15, f 16, f 17, f 18, f 19, f 20, f 21, f 22, f 23, f 24, f 25, f 26, f 27, f 28, f 29, f 30, f 31, f 32, f 33, f 34, f 35, f 36, f 37, f 38, f 39, f 40] := rfl
theorem frame41 (t : Array Value) (ds : List Deferred) (h : t.size = 41) : ({ tmps := t, defers := ds } : Act) = { tmps := #[slot t 0, slot t 1, slot t 2, slot t 3, slot t 4, slot t 5, slot t 6, slot t 7, slot t 8, slot t 9, slot t 10, slot t 11, slot t 12, slot t 13, slot t 14, slot t 15, slot t 16, slot t 17, slot t 18, slot t 19, slot t 20, slot t 21, slot t 22, slot t 23, slot t 24, slot t 25, slot t 26, slot t 27, slot t 28, slot t 29, slot t 30, slot t 31, slot t 32, slot t 33, slot t 34, slot t 35, slot t 36, slot t 37, slot t 38, slot t 39, slot t 40], defers := ds } := by
  have e : t = ((List.range 41).map (slot t)).toArray := by
    apply Array.ext
    · simp [h]
    · intro i h1 h2
      simp [slot, Array.getD, h1]
  rw [range_map41] at e
  exact congrArg (fun x => ({ tmps := x, defers := ds } : Act)) e
/-- The boxes of the loop: text and number. -/
def PtBox (W : World) (P1 P2 : Nat) (num : Nat) (T : ByteArray) : Prop := W.heap[P1]? = some (.cells #[.string T] 9) ∧ W.heap[P2]? = some (.cells #[.int .i64 (num : Nat)] 3) ∧ W.rangeAt 2 0 (u32C ks0)
theorem range_turned {T : Nat → Prop} {W W' : World} {g : Nat} {cs : List Value} (h : W.rangeAt g 0 cs) (hT : Turned T W W') (hn : ¬ T g) : W'.rangeAt g 0 cs := fun j u hu => by
  exact hT.cell (h j u hu) hn
theorem _root_.Go.World.rangeAt.below {W W' : World} {g : Nat} {cs : List Value} (h : W.rangeAt g 0 cs) (hb : Below W.heap.size W W') : W'.rangeAt g 0 cs := fun j u hu => (hb.cell (p := ⟨g, 0 + j, none⟩) (World.block_lt_of_cell? W ⟨g, 0 + j, none⟩ (h j u hu))).trans (h j u hu)
theorem PtBox.turned {W W' : World} {P1 P2 num : Nat} {T : ByteArray} {TT : Nat → Prop} (h : PtBox W P1 P2 num T) (hT : Turned TT W W') (h1 : ¬ TT P1) (h2 : ¬ TT P2) (h3 : ¬ TT 2) : PtBox W' P1 P2 num T := ⟨hT.cells h.1 h1, hT.cells h.2.1 h2, range_turned h.2.2 hT h3⟩
theorem copy_rest (L : List Int) (R : ByteArray) : (byC L).take 8 ++ byC ((nums R).take (min R.size 48)) ++ (byC L).drop (8 + (byC ((nums R).take (min R.size 48))).length) = byC (L.take 8 ++ (nums R).take (min R.size 48) ++ L.drop (8 + min R.size 48)) := by
  have e : (byC ((nums R).take (min R.size 48))).length = min R.size 48 := by rw [byC_length, List.length_take, nums_len]; omega
  rw [e]
  unfold byC
  simp only [List.map_append, List.map_take, List.map_drop]
/-- What the parts of a sector come to. -/
theorem head_eq (num k : Nat) (R : ByteArray) : putL (putL (putL (List.replicate 64 0) 0 num 4) 4 k 2) 6 R.size 2 = leN num 4 ++ (leN k 2 ++ (leN R.size 2 ++ List.replicate 56 0)) := by
  have e1 : putL (List.replicate 64 0) 0 num 4 = leN num 4 ++ List.replicate 60 0 := by simp [putL]
  rw [e1]
  have e2 : putL (leN num 4 ++ List.replicate 60 0) 4 k 2 = leN num 4 ++ (leN k 2 ++ List.replicate 58 0) := by
    unfold putL
    rw [List.take_append, leN_len, List.take_of_length_le (by rw [leN_len]; omega), List.drop_append, leN_len, List.drop_eq_nil_of_le (by rw [leN_len]; omega)]
    simp
  rw [e2]
  have e3 : putL (leN num 4 ++ (leN k 2 ++ List.replicate 58 0)) 6 R.size 2 = leN num 4 ++ (leN k 2 ++ (leN R.size 2 ++ List.replicate 56 0)) := by
    unfold putL
    rw [List.take_append, leN_len, List.take_of_length_le (by rw [leN_len]; omega), List.take_append, leN_len, List.take_of_length_le (by rw [leN_len]; omega), List.drop_append, leN_len, List.drop_eq_nil_of_le (by rw [leN_len]; omega), List.drop_append, leN_len, List.drop_eq_nil_of_le (by rw [leN_len]; omega)]
    simp
  rw [e3]
theorem head_copy (num k : Nat) (R : ByteArray) : (putL (putL (putL (List.replicate 64 0) 0 num 4) 4 k 2) 6 R.size 2).take 8 ++ (nums R).take (min R.size 48) ++ (putL (putL (putL (List.replicate 64 0) 0 num 4) 4 k 2) 6 R.size 2).drop (8 + min R.size 48) = headB num k (nums R) ++ List.replicate 8 0 := by
  rw [head_eq]
  have hl : (leN num 4 ++ (leN k 2 ++ leN R.size 2)).length = 8 := by simp only [List.length_append, leN_len]
  have e : leN num 4 ++ (leN k 2 ++ (leN R.size 2 ++ List.replicate 56 0)) = (leN num 4 ++ (leN k 2 ++ leN R.size 2)) ++ List.replicate 56 0 := by simp
  rw [e, List.take_append, hl, List.take_of_length_le (by omega), Nat.sub_self, List.take_zero, List.append_nil, List.drop_append, hl, List.drop_eq_nil_of_le (by rw [hl]; omega), List.nil_append, show 8 + min R.size 48 - 8 = min R.size 48 from by omega, List.drop_replicate]
  unfold headB
  rw [nums_len]
  have e1 : (nums R).take (min R.size 48) = (nums R).take 48 := by
    rcases Nat.le_total R.size 48 with h | h
    · rw [Nat.min_eq_left h, List.take_of_length_le (by rw [nums_len]; omega), List.take_of_length_le (by rw [nums_len]; omega)]
    · rw [Nat.min_eq_right h]
  have e2 : List.replicate (56 - min R.size 48) (0 : Int) = List.replicate (48 - R.size) 0 ++ List.replicate 8 0 := by
    rw [List.replicate_append_replicate]
    congr 1
    omega
  rw [e1, e2]
  simp
theorem seal_eq (h : List Int) (h56 : h.length = 56) : (h ++ List.replicate 8 0).take 56 ++ (sha56 h).take 8 = sealB h := by
  rw [List.take_append, h56, Nat.sub_self, List.take_zero, List.append_nil, List.take_of_length_le (by omega)]
  rfl
/-- The first bytes of an array, as a slice. -/
theorem bytR_of_block {W : World} {b o m c : Nat} {L : List Int} {t : TypeId} (h : W.heap[b]? = some (.cells (byC L).toArray t)) (hl : o + m ≤ L.length) (hc : m ≤ c) (hm : c ≤ 1000) (hr : ∀ x ∈ L, 0 ≤ x ∧ x < 256) : BytR W (.slice (some ⟨b, o, none⟩) m c) ((L.drop o).take m) := by
  have hlen : ((L.drop o).take m).length = m := by rw [List.length_take, List.length_drop]; omega
  refine ⟨⟨by rw [byC_length]; omega, some ⟨b, o, none⟩, c, by rw [hlen], by omega, by unfold maxLen; omega, (fun e => by cases e), fun ad e _ => ?_⟩, fun x hx => hr x (List.mem_of_mem_drop (List.mem_of_mem_take hx))⟩
  injection e with e
  subst e
  refine ⟨rfl, _, _, _, trivial, h, fun j u hu => ?_⟩
  have hj : j < m := by
    rcases Nat.lt_or_ge j m with h | h
    · exact h
    · rw [List.getElem?_eq_none (by rw [byC_length]; omega)] at hu; cases hu
  have : (byC L)[o + j]? = some u := by
    unfold byC at hu ⊢
    rw [List.getElem?_map, List.getElem?_take_of_lt hj, List.getElem?_drop] at hu
    rw [List.getElem?_map]
    exact hu
  simpa using this
def PtI (J : List Nat → World → Prop) (TT : Nat → Prop) (W : World) (n : Nat) (i : Value) (wr : World) : Prop := ∃ k : Nat, k ≤ n ∧ i = .int .i64 (k : Nat) ∧ J (List.range k) wr ∧ Turned TT W wr
set_option maxHeartbeats 8000000 in
theorem parts1_in (d : Nat) (hd : 1 ≤ d) (l P1 P2 num : Nat) (T : ByteArray) (TT : Nat → Prop) (h1 : ¬ TT P1) (h2 : ¬ TT P2) (h3 : ¬ TT 2) (hnum : num ≤ 4096) (hT : T.size ≤ 8000) (J Jx : List Nat → World → Prop) (B0 : Nat) (hJ : AbidesFrom B0 J)
    (hY : ∀ (pre : List Nat) (x : Nat) (W : World), J pre W → pre.length < (cntZ T.size).toNat → YieldAt Fence.wide (d - 1) Tryz.prog l #[.agg (byC (secB num (nums T) x)).toArray] W fun e W' =>
      (e = .returned (.bool true) ∧ J (pre ++ [x]) W' ∧ Turned TT W W') ∨ (e = .returned (.bool false) ∧ Jx (pre ++ [x]) W'))
    (W : World) (hB : PtBox W P1 P2 num T) (hB0 : B0 ≤ W.heap.size) (h0 : J [] W) :
    CallsIn Fence.wide d Tryz.prog 90 #[.func (.yield l) #[] #[], .pointer (some ⟨P1, 0, none⟩), .pointer (some ⟨P2, 0, none⟩)] W fun e W' => (∃ v, e = .returned v) ∧
      ((∃ ys, ys = List.range (cntZ T.size).toNat ∧ J ys W') ∨ (∃ pre : List Nat, True ∧ Jx pre W')) := by
  have hc1 := box1_cell hB.1
  have hfw : Fence.wide.fn 90 := trivial
  refine callsIn_of_wp Tryz.func90 rfl hfw ?_ rfl
  simp only [Tryz.ntmps90, List.size_toArray, List.length_cons, List.length_nil, Nat.reduceAdd, Nat.reduceSub, Array.replicate_succ, Array.replicate_zero, List.push_toArray, List.append_toArray, List.nil_append, List.cons_append]
  obtain ⟨n, hn⟩ : ∃ n, n = (cntZ T.size).toNat := ⟨_, rfl⟩
  have hcz : cntZ T.size = (n : Int) := by have := cntZ_rng T.size; omega
  have hnT : n ≤ 167 ∧ (∀ k : Nat, k < n → 48 * k ≤ T.size) := by
    have := cntZ_rng T.size
    refine ⟨by omega, fun k hk => ?_⟩
    unfold cntZ at hcz
    split at hcz <;> omega
  rw [← hn] at hY ⊢
  have HCN := hidep (show ∀ W, Calls Tryz.prog 16 #[.int .i64 (T.size : Nat)] W fun e w' => e = .returned (.int .i64 (n : Nat)) ∧ w' = W from fun W => by
    have := count_any (T.size : Nat) W (by omega) (by omega)
    rw [hcz] at this
    exact this)
  have HNT := hidep (And.intro hnT (And.intro hnum hT))
  clear hn hcz hnT hnum hT
  refine wpIn_wide.2 ?_
  go_upto_region 1 with (first
    | (go_at_call 16; refine (HCN.out _).mono ?_; rintro e w3 ⟨rfl, rfl⟩)
    | fail)
  clear hc1
  refine wp_loop (LoopI 41 (fun tm ds wr => (slot tm 0) = .func (.yield l) #[] #[] ∧ (slot tm 1) = .pointer (some ⟨P1, 0, none⟩) ∧ (slot tm 2) = .pointer (some ⟨P2, 0, none⟩) ∧ (slot tm 10) = .int .i64 (n : Nat) ∧ ds = [] ∧ PtI J TT w3 n (slot tm 11) wr)) (fun a' wr => n - natI (a'.tmps.getD 11 undef)) ?mainStart ?mainRound
  case' mainStart => refine LoopI.mk rfl ?_
  case' mainRound => (rintro ⟨t, ds⟩ wr ⟨hts, hrel⟩; dsimp only at hts hrel; rw [frame41 t ds hts])
  case mainStart => exact ⟨rfl, rfl, rfl, rfl, rfl, 0, Nat.zero_le _, rfl, h0, Turned.refl _ _⟩
  clear h0
  obtain ⟨q0, q1, q2, q10, hds, k, hk, q11, hJk, hTW⟩ := hrel
  subst hds
  rw [q0, q1, q2, q10, q11]
  clear q0 q1 q2 q10 q11 hts
  have hBr := hB.turned hTW h1 h2 h3
  by_cases hkn : k < n
  · have hki : (k : Int) < (n : Int) := by omega
    have hw48 : IntKind.i64.wrap (48 * (k : Int)) = ((48 * k : Nat) : Int) := by rw [IntWalk.i64_in _ (by have := HNT.out.1.1; omega)]; omega
    have hkT := HNT.out.1.2 k hkn
    go_upto_region 4 with (first
      | (refine wpList_alloc_row (o := ⟨some 5, _, _, _, _, _⟩) zero_sect _ rfl rfl ?_)
      | fail)
    obtain ⟨L0, hL0⟩ : ∃ L : List Int, L = List.replicate 64 0 := ⟨_, rfl⟩
    refine wp_abs (fun X => X.heap[wr.heap.size]? = some (.cells (byC L0).toArray 96) ∧ Below wr.heap.size wr X) ⟨by rw [hL0]; exact heap_alloc_new _ _, (Below.refl _ _).alloc (Nat.le_refl _) _⟩ ?_
    have hL064 : L0.length = 64 := by rw [hL0]; simp
    have HL0 := hidep hL0
    clear hL0
    rintro X ⟨hqA, hbX⟩
    obtain ⟨A, hA⟩ : ∃ A, A = wr.heap.size := ⟨_, rfl⟩
    rw [← hA] at hqA
    rw [← hA]
    have HA := hidep hA
    clear hA
    have hBX : PtBox X P1 P2 num T := ⟨below_push hbX hBr.1, below_push hbX hBr.2.1, hBr.2.2.below hbX⟩
    have ht1 := box1_cell hBX.1
    go_upto_region 5 with (fail)
    clear ht1 hw48
    obtain ⟨R, hR⟩ : ∃ R, R = T.extract (48 * k) T.size := ⟨_, rfl⟩
    rw [← hR]
    have hRs : R.size ≤ 8000 := by rw [hR, ByteArray.size_extract]; have := HNT.out.2.2; omega
    have hRn : nums R = (nums T).drop (48 * k) := by rw [hR, nums_extract, List.take_of_length_le (by rw [List.length_drop, nums_len]; exact Nat.le_refl _)]
    have HR := hidep (And.intro hRn hRs)
    clear hR hRn
    have HK := hidep (And.intro hJk (And.intro hTW (And.intro hk hkn)))
    clear hJk hTW hk hkn
    have hPA : P1 < A ∧ P2 < A := by have := lt_of_block hBr.1; have := lt_of_block hBr.2.1; rw [HA.out]; exact ⟨by assumption, by assumption⟩
    have HPUT := hidep (put_any A 0 4 64 L0 num 96)
    have hbxS : Below X.heap.size X X := Below.refl _ _
    refine wp_region_noPanic (wp_region_held_drew (S := (fun Y => Turned (fun b => b = A) X Y)) (by kernel_rfl) ?hS90r5n0 (fun hHeld => ?hR90r5n0))
    case hS90r5n0 => ((try dsimp only); (exact (Turned.refl _ _).drew))
    refine wpAnyH_take (i := 0) (v := ?v90r5n0q1) rfl (by kernel_rfl) (by kernel_rfl) (by kernel_rfl) (fun _ _ _ h => h) (Or.inl ⟨by kernel_rfl, ?hy90r5n0q1⟩) (by assumption) ?hr90r5n0q1
    case hy90r5n0q1 => (intro w hSw; (try dsimp only at hSw); (have c2 := box1_cell (hSw.cells hBX.2.1 (by omega))); first | (go_simp; done) | (go_simp; with_reducible rfl))
    refine wpAnyH_take (i := 1) (v := ?v90r5n0q2) rfl (by kernel_rfl) (by kernel_rfl) (by kernel_rfl) (fun _ _ _ h => h) (Or.inl ⟨by kernel_rfl, ?hy90r5n0q2⟩) (by assumption) ?hr90r5n0q2
    case hy90r5n0q2 => (intro w hSw; (try dsimp only at hSw); (have c2 := box1_cell (hSw.cells hBX.2.1 (by omega))); first | (go_simp; done) | (go_simp; with_reducible rfl))
    refine wpAnyH_ready (rs := [2]) (by kernel_rfl) (by simp) (AllReadyH.cons rfl (fun K hK => ?hc90r5n0q3) AllReadyH.nil)
    go_simp
    (go_at_call 91; refine (HPUT.out X.drew hqA (by omega) (by omega) (by have := HNT.out.2.1; omega)).mono ?_; rintro e w5 ⟨⟨v5, rfl⟩, hq5, hT5⟩; have hk := hHeld.trans hT5; (try dsimp only))
    refine hK.out _ _ ?hs90r5n0q3 (fun hHeld90r5n0q3 => ?ht90r5n0q3)
    case hs90r5n0q3 => ((try dsimp only); (first | exact hk))
    clear hHeld hK
    have hHeld := hHeld90r5n0q3
    clear hHeld90r5n0q3
    refine wpAnyH_done (by kernel_rfl) ?_ _
    clear hHeld
    refine NoPanic.normal ?_
    apply_assumption
    refine wp_cutA 41 (fun tm ds => ds = [] ∧ slot tm 0 = .func (.yield l) #[] #[] ∧ slot tm 1 = .pointer (some ⟨P1, 0, none⟩) ∧ slot tm 2 = .pointer (some ⟨P2, 0, none⟩) ∧ slot tm 4 = .int .i64 (k : Nat) ∧ slot tm 5 = .pointer (some ⟨A, 0, none⟩) ∧ slot tm 6 = .string R ∧ slot tm 10 = .int .i64 (n : Nat) ∧ slot tm 11 = .int .i64 (k : Nat)) (by kernel_rfl) (by exact ⟨by kernel_rfl, by kernel_rfl, by kernel_rfl, by kernel_rfl, by kernel_rfl, by kernel_rfl, by kernel_rfl, by kernel_rfl, by kernel_rfl⟩) ?_
    rintro tA dA h41 ⟨rfl, e0, e1, e2, e4, e5, e6, e10, e11⟩
    rw [frame41 tA [] h41, e0, e1, e2, e4, e5, e6, e10, e11]
    clear h41 e0 e1 e2 e4 e5 e6 e10 e11 hqA HPUT
    obtain ⟨L1, hL1⟩ : ∃ L1, L1 = putL L0 0 num 4 := ⟨_, rfl⟩
    have hl1 : L1.length = 64 := by rw [hL1, putL_len _ _ _ _ (by omega), hL064]
    rw [← hL1] at hq5
    go_upto_region 7 with (first
      | (go_at_call 91; refine (put_any A 4 2 60 L1 k 96 _ hq5 (by omega) (by omega) (by have := HNT.out.1.1; have := HK.out.2.2.2; omega)).mono ?_; rintro e w6 ⟨⟨v6, rfl⟩, hq6, hT6⟩)
      | fail)
    obtain ⟨L2, hL2⟩ : ∃ L2, L2 = putL L1 4 k 2 := ⟨_, rfl⟩
    have hl2 : L2.length = 64 := by rw [hL2, putL_len _ _ _ _ (by omega), hl1]
    rw [← hL2] at hq6
    go_upto_region 8 with (first
      | (go_at_call 91; refine (put_any A 6 2 58 L2 R.size 96 _ hq6 (by omega) (by omega) (by omega)).mono ?_; rintro e w7 ⟨⟨v7, rfl⟩, hq7, hT7⟩)
      | fail)
    obtain ⟨L3, hL3⟩ : ∃ L3, L3 = putL L2 6 R.size 2 := ⟨_, rfl⟩
    have hl3 : L3.length = 64 := by rw [hL3, putL_len _ _ _ _ (by omega), hl2]
    rw [← hL3] at hq7
    have hT37 := (hk.trans hT6).trans hT7
    have hL30 : L3 = putL (putL (putL (List.replicate 64 0) 0 num 4) 4 k 2) 6 R.size 2 := by rw [hL3, hL2, hL1, HL0.out]
    clear hq5 hq6 hT6 hT7 hk hL3 hL2 hL1 hl1 hl2
    obtain ⟨m, hm⟩ : ∃ m, m = min R.size 48 := ⟨_, rfl⟩
    obtain ⟨H, hH⟩ : ∃ H, H = headB num k (nums R) := ⟨_, rfl⟩
    have hH56 : H.length = 56 := by rw [hH]; exact headB_len _ _ _
    have hHr : ∀ x ∈ H, 0 ≤ x ∧ x < 256 := by rw [hH]; exact headB_rng _ _ _ (nums_rng R)
    have hcp := copy_rest L3 R
    have hhc := head_copy num k R
    rw [← hL30, ← hm, ← hH] at hhc
    rw [← hm, hhc] at hcp
    have hml : (byC ((nums R).take m)).length = m := by rw [byC_length, List.length_take, nums_len]; omega
    obtain ⟨W8, hW8⟩ : ∃ W8, W8 = w7.setCells A 8 (byC ((nums R).take m)) := ⟨_, rfl⟩
    have hq8 : W8.heap[A]? = some (.cells (byC (H ++ List.replicate 8 0)).toArray 96) := by
      rw [hW8, heap_setCells (byC ((nums R).take m)) 8 w7 (byC L3) hq7 (by rw [hml, byC_length]; omega), hcp]
    have hT38 : Turned (fun b => b = A) X W8 := by rw [hW8]; exact turned_setCells (T := fun b => b = A) A rfl _ _ _ hT37
    have hTH : w7.there A 8 m := there_at hq7 (by rw [List.size_toArray, byC_length]; omega)
    have hu36 : Tryz.prog.underlying 81 = some (.slice 5) := by kernel_rfl
    have hs36 : ∀ w, (Go.sizeOf 5).run Tryz.prog w = .ok 1 w := fun w => by kernel_rfl
    have HM := hidep hm
    have HW8 := hidep hW8.symm
    have HH := hidep hH
    clear hW8 hcp hhc hml hL30 hl3 hq7 hm hH hT37
    go_upto_region 9 with (first
      | (refine wpList_copy (o := ⟨some 30, _, _, _, _, _⟩) rfl _ _ _ _ rfl 5 hu36 hs36 A 8 48 56 R m HM.out rfl rfl hTH W8 HW8.out ?_)
      | fail)
    clear hu36 hs36 hTH HW8
    have hgA : (2 : Nat) < A := by
      have := World.block_lt_of_cell? wr ⟨2, 0 + 0, none⟩ (hBr.2.2 0 _ rfl)
      rw [HA.out]
      exact this
    have hk8 := range_turned hBX.2.2 hT38 (by show ¬ (2 : Nat) = A; omega)
    have hbt := bytR_of_block (o := 0) (m := 56) (c := 64) hq8 (by simp; omega) (by omega) (by omega) (by
      intro x hx
      rcases List.mem_append.1 hx with h | h
      · exact hHr x h
      · rw [(List.mem_replicate.1 h).2]; decide)
    rw [List.drop_zero, List.take_append, hH56, Nat.sub_self, List.take_zero, List.append_nil, List.take_of_length_le (by omega)] at hbt
    have HSM := hidep (sumC_any _ H W8 hbt hH56 hk8)
    obtain ⟨O, hO⟩ : ∃ O, O = sha56 H := ⟨_, rfl⟩
    have hO32 : (byC O).length = 32 := by rw [hO, byC_length, sha56_len]
    rw [← hO] at HSM
    have hI := hidep (show (Tryz.prog.info? 125).map (·.size) = some (byC O).toArray.size from by rw [List.size_toArray, hO32]; exact row_u8x32.2)
    have hSZ := hidep (show (byC (List.replicate 32 0)).toArray.size = (byC O).toArray.size from by rw [List.size_toArray, List.size_toArray, hO32, byC_length]; simp)
    have hONE := hidep (all_oneCell_toArray (byC_one O))
    have HO := hidep (And.intro hO hO32)
    clear hO hO32 hbt hk8
    go_upto_region 10 with (first
      | (go_at_call 75; refine HSM.out.mono ?_; rintro e w9 ⟨rfl, hb9⟩)
      | (refine wpList_alloc_row (o := ⟨some 7, _, _, _, _, _⟩) zero_u8x32 _ rfl rfl ?_)
      | (refine wpList_store_last (o := ⟨none, _, _, _, _, _⟩) _ hI.out hSZ.out hONE.out rfl _ _ rfl rfl rfl ?_)
      | fail)
    refine wp_abs (fun Y => Y.heap[w9.heap.size]? = some (.cells (byC O).toArray 125) ∧ Y.heap[A]? = some (.cells (byC (H ++ List.replicate 8 0)).toArray 96) ∧ Turned (fun b => b = A) X Y) ⟨heap_alloc_new _ _, below_push ((Below.refl _ _).alloc (Nat.le_refl _) _) (below_push hb9 hq8), (hT38.below hb9).alloc _⟩ ?_
    have hlA := lt_of_block (below_push hb9 hq8)
    obtain ⟨E, hE⟩ : ∃ E, E = w9.heap.size := ⟨_, rfl⟩
    rw [← hE]
    have hEA : E ≠ A := by omega
    clear hE hlA hq8 hT38 hb9 HSM hI hSZ hONE
    rintro Y ⟨hqE, hqA, hTY⟩
    refine wp_cutA 41 (fun tm ds => ds = [] ∧ slot tm 0 = .func (.yield l) #[] #[] ∧ slot tm 1 = .pointer (some ⟨P1, 0, none⟩) ∧ slot tm 2 = .pointer (some ⟨P2, 0, none⟩) ∧ slot tm 5 = .pointer (some ⟨A, 0, none⟩) ∧ slot tm 7 = .pointer (some ⟨E, 0, none⟩) ∧ slot tm 10 = .int .i64 (n : Nat) ∧ slot tm 11 = .int .i64 (k : Nat)) (by kernel_rfl) (by exact ⟨by kernel_rfl, by kernel_rfl, by kernel_rfl, by kernel_rfl, by kernel_rfl, by kernel_rfl, by kernel_rfl, by kernel_rfl⟩) ?_
    rintro tB dB h41 ⟨rfl, e0, e1, e2, e5, e7, e10, e11⟩
    rw [frame41 tB [] h41, e0, e1, e2, e5, e7, e10, e11]
    clear h41 e0 e1 e2 e5 e7 e10 e11
    obtain ⟨O8, hO8⟩ : ∃ O8, O8 = O.take 8 := ⟨_, rfl⟩
    have hO8l : (byC O8).length = 8 := by rw [hO8, byC_length, List.length_take]; have := HO.out.2; rw [byC_length] at this; omega
    obtain ⟨W11, hW11⟩ : ∃ W11, W11 = Y.drew.setCells A 56 (byC O8) := ⟨_, rfl⟩
    have hq11 : W11.heap[A]? = some (.cells (byC (secB num (nums T) k)).toArray 96) := by
      rw [hW11, heap_setCells (byC O8) 56 Y.drew (byC (H ++ List.replicate 8 0)) hqA (by rw [hO8l, byC_length, List.length_append, hH56]; simp)]
      congr 3
      have e1 : secB num (nums T) k = H ++ O8 := by
        rw [hO8, HO.out.1, HH.out, HR.out.1]
        rfl
      rw [e1]
      unfold byC at hO8l ⊢
      rw [hO8l, ← List.map_take, ← List.map_drop, List.take_append, hH56, Nat.sub_self, List.take_zero, List.append_nil, List.take_of_length_le (by omega), List.drop_eq_nil_of_le (by simp [hH56])]
      simp
    have hT11 : Turned (fun b => b = A) Y W11 := by rw [hW11]; exact turned_setCells (T := fun b => b = A) A rfl _ _ _ (Turned.refl _ _).drew
    have hcpy : (Builtin.copy_ #[81, 81] 3 #[.slice (some ⟨A, 56, none⟩) 8 8, .slice (some ⟨E, 0, none⟩) 32 32]).run Tryz.prog Y.drew = .ok (goInt 8) W11 := by
      have h := run_copy_cells (P := Tryz.prog) Y.drew 81 81 3 5 A 56 8 8 ⟨E, 0, none⟩ 32 32 (byC O8) (by kernel_rfl) (by kernel_rfl) hO8l (fun j v hv => by
          have := range_of_arr hqE j v (by
            rw [hO8] at hv
            unfold byC at hv ⊢
            rw [List.map_take] at hv
            have hj : j < 8 := by
              rcases Nat.lt_or_ge j 8 with h | h
              · exact h
              · rw [List.getElem?_eq_none (by rw [List.length_take]; omega)] at hv; cases hv
            rwa [List.getElem?_take_of_lt hj] at hv)
          rw [Addr.add_mid]
          exact this) (fun j hj => (there_at (n := 8) hqA (by rw [List.size_toArray, byC_length, List.length_append, hH56]; simp) j (by omega)).1) (fun j hj => (there_at (n := 8) hqA (by rw [List.size_toArray, byC_length, List.length_append, hH56]; simp) j (by omega)).2) (byC_one O8)
      rw [hO8l, ← hW11] at h
      exact h
    have HCP := hidep hcpy
    have HT11 := hidep hT11
    clear hcpy hT11 hW11 hO8l hO8 hqE
    refine wp_region_noPanic (wp_region_held_drew (S := (fun Z => Turned (fun b => b = A) Y Z)) (by kernel_rfl) ?hS90r10n1 (fun hHeld => ?hR90r10n1))
    case hS90r10n1 => ((try dsimp only); (exact (Turned.refl _ _).drew))
    refine wpAnyH_take (i := 0) (v := ?v90r10n1q1) rfl (by kernel_rfl) (by kernel_rfl) (by kernel_rfl) (fun _ _ _ h => h) (Or.inl ⟨by kernel_rfl, ?hy90r10n1q1⟩) (by assumption) ?hr90r10n1q1
    case hy90r10n1q1 => (intro w hSw; (try dsimp only at hSw); skip; first | (go_simp; done) | (go_simp; with_reducible rfl))
    refine wpAnyH_take (i := 1) (v := ?v90r10n1q2) rfl (by kernel_rfl) (by kernel_rfl) (by kernel_rfl) (fun _ _ _ h => h) (Or.inl ⟨by kernel_rfl, ?hy90r10n1q2⟩) (by assumption) ?hr90r10n1q2
    case hy90r10n1q2 => (intro w hSw; (try dsimp only at hSw); skip; first | (go_simp; done) | (go_simp; with_reducible rfl))
    refine wpAnyH_ready (rs := [2]) (by kernel_rfl) (by simp) (AllReadyH.cons rfl (fun K hK => ?hc90r10n1q3) AllReadyH.nil)
    (refine step_copy rfl _ _ _ _ rfl _ _ rfl rfl HCP.out ?_; have hk := HT11.out)
    refine hK.out _ _ ?hs90r10n1q3 (fun hHeld90r10n1q3 => ?ht90r10n1q3)
    case hs90r10n1q3 => ((try dsimp only); (first | exact hk))
    clear hHeld hK
    have hHeld := hHeld90r10n1q3
    clear hHeld90r10n1q3
    refine wpAnyH_done (by kernel_rfl) ?_ _
    clear hHeld
    refine NoPanic.normal ?_
    apply_assumption
    refine wp_cutA 41 (fun tm ds => ds = [] ∧ slot tm 0 = .func (.yield l) #[] #[] ∧ slot tm 1 = .pointer (some ⟨P1, 0, none⟩) ∧ slot tm 2 = .pointer (some ⟨P2, 0, none⟩) ∧ slot tm 5 = .pointer (some ⟨A, 0, none⟩) ∧ slot tm 10 = .int .i64 (n : Nat) ∧ slot tm 11 = .int .i64 (k : Nat)) (by kernel_rfl) (by exact ⟨by kernel_rfl, by kernel_rfl, by kernel_rfl, by kernel_rfl, by kernel_rfl, by kernel_rfl, by kernel_rfl⟩) ?_
    rintro tC dC h41 ⟨rfl, e0, e1, e2, e5, e10, e11⟩
    rw [frame41 tC [] h41, e0, e1, e2, e5, e10, e11]
    clear h41 e0 e1 e2 e5 e10 e11
    have hTA := hTY.trans hk
    have hb11 : Below wr.heap.size wr W11 := below_turned hbX hTA (by rw [HA.out]; exact Nat.le_refl _) hbX.size
    have hJ11 := abides_below hJ HK.out.1 hb11
    have hlen : (List.range k).length < n := by rw [List.length_range]; exact HK.out.2.2.2
    obtain ⟨fn, tmps, assign, body, hy, hR⟩ := hY (List.range k) k W11 hJ11 hlen
    have hLD := range_of_arr hq11
    obtain ⟨SC, hSC⟩ : ∃ SC, SC = byC (secB num (nums T) k) := ⟨_, rfl⟩
    have hSCl : SC.length = 64 := by rw [hSC, byC_length, secB_len]
    rw [← hSC] at hLD hy
    clear hSC
    have HB11 := hidep hb11
    have HTA := hidep hTA
    clear hTA hb11 hJ11 hq11 hk hqA hTY
    refine (wpIn_wide (n := d)).1 ?_
    refine wpIn_seq ?_
    refine wpIn_region_lit ?_
    refine wpListIn_move (op := ⟨some 36, _, _, _, _, _⟩) rfl _ rfl ?_
    refine wpListIn_load_mid (op := ⟨some 37, _, _, _, _, _⟩) rfl 96 _ rfl A 0 rfl SC _ hLD row_sect.1.choose_spec.1 row_sect.1.choose_spec.2 (by rw [hSCl]; exact row_sect.2) ?_
    clear hLD hSCl
    gi_wp2
    refine hR.mono ?_
    rintro e W3 (⟨rfl, hJ3, hk3⟩ | ⟨rfl, hJx3⟩)
    · gi_wp2
      have hn167 := HNT.out.1.1
      go_wp2
      have hTE := (HK.out.2.1.trans (Turned.of_below HB11.out)).trans hk3
      rw [← List.range_succ] at hJ3
      refine ⟨LoopI.mk rfl ⟨rfl, rfl, rfl, rfl, rfl, k + 1, by have := HK.out.2.2.2; omega, by show Value.int _ _ = _; go_num, hJ3, hTE⟩, ?_⟩
      show n - _ < n - _
      have := HK.out.2.2.2
      simp [natI]; omega
    · gi_wp2
      refine bodyPost_ret (results_none rfl _ _ _) rfl ?_
      exact ⟨⟨_, rfl⟩, .inr ⟨_, trivial, hJx3⟩⟩
  · have hki : ¬ (k : Int) < (n : Int) := by omega
    have hkn2 : k = n := by omega
    rw [hkn2] at hJk
    go_wp2
    go_end0
    exact ⟨⟨_, rfl⟩, .inl hJk⟩
end Go.Proofs.YtipbkdlekanlmaaGreatDoor
