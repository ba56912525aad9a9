/- Contract of the program's disk: settle. -/
import Derived.Test.YtmgogmjkoealoaaDkEq
import Derived.Test.YtmgogmjkoealoaaDkT
namespace Go.Proofs.Ytmgogmjkoealoaa
open Go.RowKit Go.Lab Go.Disk Go.Maps
theorem pendOr_dirty {S : List Sec} {k : Nat} (hk : k < S.length) (hd : (atS S k).dirty = true) : pendOr S (k : Int) = (atS S k).next := by
  unfold pendOr pendAt
  rw [Int.toNat_natCast, if_pos ⟨by omega, hk, hd⟩]; rfl
theorem wornAt_nat {S : List Sec} {k : Nat} (hk : k < S.length) : wornAt S (k : Int) = (atS S k).worn := by
  unfold wornAt
  rw [Int.toNat_natCast]
  simp [hk]
theorem step_copy_cells {P : Program} (w : World) {ops : Array Oper} {o : Oper} {a : Act} {K : Act → World → Prop} {Q : Exit → Act → World → Prop} {E : Prop} (hgd : o.guard = none) (d s : Operand) (dT sT elem : TypeId)
    (ho : o.op = .call { callee := .builtin .copy, args := #[d, s], argTypes := #[dT, sT] }) (hu : P.underlying dT = some (.slice elem)) (hs : (P.info? elem).map (·.size) = some 1)
    (b off dLen dCap : Nat) (ad : Addr) (sLen sCap : Nat) (hd : a.eval d = .slice (some ⟨b, off, none⟩) dLen dCap) (hx : a.eval s = .slice (some ad) sLen sCap) (cs : List Value) (hn : cs.length = Nat.min sLen dLen)
    (hsrc : ∀ j v, cs[j]? = some v → w.cell? (ad.add j) = some v) (hc : ∀ j, j < cs.length → (w.cell? ⟨b, off + j, none⟩).isSome = true) (hf : ∀ j, j < cs.length → w.frozen? ⟨b, off + j, none⟩ = false) (h1 : ∀ v ∈ cs, v.oneCell' = true)
    (h : K (a.put o.dst (goInt cs.length)) (w.setCells b off cs)) : if Region.wanted o (yielded ops a.tmps) = true then Oper.wp P o a w K Q else E := by
  have hw : Region.wanted o (yielded ops a.tmps) = true := by simp [Region.wanted, hgd]
  rw [if_pos hw]
  have hrun := run_copy_cells (P := P) w dT sT o.type elem b off dLen dCap ad sLen sCap cs hu hs hn hsrc hc hf h1
  unfold Oper.wp
  simp [execOp, ho, resolve, invoke, builtin, hd, hx, hrun, Result.andThen]
  exact h
theorem load_cells_any {P : Program} {w : World} {g o : Nat} {cs : List Value} (h : w.rangeAt g o cs) {n : Nat} (hn : cs.length = n) : (loadCellsFrom ⟨g, o, none⟩ 0 n #[]).run P w = .ok cs.toArray w := by
  have := run_loadCells_list (P := P) w ⟨g, o, none⟩ cs (fun j v hv => by rw [Addr.add_mid]; exact h j v hv)
  rw [hn] at this
  exact this
theorem block_at {w : World} {g : Nat} {S : List Sec} (h : RowAt w g 74 (blocksC S)) (hok : SOk S) {k : Nat} (hk : k < S.length) : w.rangeAt g (k * 64) (cellsB (atS S k).text) := fun j v hv => by
  have hs := (hok.at hk).1
  have hj : j < 64 := by rw [← hs, ← cellsB_len]; exact (List.getElem?_eq_some_iff.1 hv).1
  rw [cellsB_get _ (by rw [hs]; exact hj)] at hv
  rw [h.cell (blocksC_get hok hk hj)]
  exact hv
theorem wpQuiet_run {P : Program} {ops : Array Oper} {C : World → Prop} {Q : Act → Prop} {rest : List Oper} {o : Oper} {a : Act} (hw : Region.wanted o (yielded ops a.tmps) = true) (v : Value)
    (h : ∀ w, C w → (execOp a.eval o).run P w = .ok (.value v) w) (hk : wpQuiet P ops C Q rest (a.put o.dst v)) : wpQuiet P ops C Q (o :: rest) a :=
  BigFrame.wpQuiet_want hw fun _ hK => ⟨v, fun w hC => by unfold Oper.quietAt; rw [h w hC]; exact ⟨rfl, rfl⟩, hK _ hk⟩
theorem run_lookup_op {P : Program} {o : Oper} {a : Act} {t : TypeId} {m x : Operand} {c : Bool} {mv key v : Value} {w : World} (ho : o.op = .lookup t m x c) (hm : a.eval m = mv) (hx : a.eval x = key) (h : (Instr.lookup t mv key c).run P w = .ok v w) : (execOp a.eval o).run P w = .ok (.value v) w := by
  unfold execOp
  simp only [ho, hm, hx, h, Sem.run_bind, Sem.run_pure, Result.andThen_ok]
theorem run_load_op {P : Program} {o : Oper} {a : Act} {t : TypeId} {x : Operand} {pv v : Value} {w : World} (ho : o.op = .load t x) (hx : a.eval x = pv) (h : (Instr.loadAt t pv).run P w = .ok v w) : (execOp a.eval o).run P w = .ok (.value v) w := by
  unfold execOp
  simp only [ho, hx, h, Sem.run_bind, Sem.run_pure, Result.andThen_ok]
theorem run_neq_op {P : Program} {o : Oper} {a : Act} {t u : TypeId} {x y : Operand} {xv yv v : Value} {w : World} (ho : o.op = .binOp .neq t x y u) (hx : a.eval x = xv) (hy : a.eval y = yv) (hg : (eqGuard .neq t x y xv yv).run P w = .ok () w) (h : (binOp .neq t xv yv).run P w = .ok v w) : (execOp a.eval o).run P w = .ok (.value v) w := by
  unfold execOp
  simp only [ho, hx, hy, hg, h, Sem.run_bind, Sem.run_pure, Result.andThen_ok]
theorem run_sliceAt_hi {P : Program} {arr e : TypeId} {n size : Nat} (hu : P.underlying arr = some (.array n e)) (hs : ∀ w, (sizeOf e).run P w = .ok size w) (g o : Nat) {m : Nat} (hm : m ≤ n) (w : World) :
    (Instr.sliceAt arr (.pointer (some ⟨g, o, none⟩)) none (some (.int .i64 (m : Int))) none).run P w = .ok (.slice (some ⟨g, o, none⟩) m n) w := by
  have h2 : (0 : Int) ≤ (m : Int) := by omega
  simp [Instr.sliceAt, run_underlying hu, Instr.sureAddr, Instr.sliceBounds, Instr.sliceBound, asIntOf, hs, h2, hm, Addr.add_mid, Result.andThen]
theorem take_src {w : World} {g : Nat} {cs : List Value} (h : w.rangeAt g 0 cs) {m : Nat} : ∀ j v, (cs.take m)[j]? = some v → w.cell? ((⟨g, 0, none⟩ : Addr).add j) = some v := fun j v hv => by
  rw [Addr.add_mid]
  rw [List.getElem?_take] at hv
  split at hv
  · exact h j v hv
  · cases hv
/-- what is left of a sector whose pending content is struck -/
def struck (x : Sec) : Sec := { text := x.text, next := ByteArray.empty, dirty := false, worn := x.worn }
theorem DiskIn.delPend {lo hi b g mb wb c : Nat} {l : Int} {P W : DataW Unit} {D : Dk} {w w' : World} (h : DiskIn w lo hi b g mb wb c l P W D) {k : Nat} (hk : k < D.s.length) {m : Nat}
    (hm : w'.ownsMap Try.prog 3 blockElem mb m (P.del (kI (k : Int)))) (hg : w.grownBy w' (some mb)) :
    DiskIn w' lo hi b g mb wb c l (P.del (kI (k : Int))) W { D with s := D.s.set k (struck (atS D.s k)) } ∧ Turn lo hi w w' := by
  have n1 := ownsMap_ne h.pend h.top
  have n2 := ownsMap_ne h.pend h.row
  have n3 := h.ne
  refine ⟨h.setMaps hk ⟨(h.ok.1.at hk).1, fun e => by cases e⟩ rfl hg.size (keep_of_grown hg h.top.lt (Ne.symm n1)) (keep_of_grown hg h.row.lt (Ne.symm n2)) (ownsMap_size hm) (ownsMap_block h.worn (keep_of_grown hg h.worn.lt (Ne.symm n3))) (h.pv.del hk rfl) (h.wv.same hk rfl), Turn.grown hg (fun q e => by injection e with e; subst e; exact h.hm)⟩
theorem settle_keeps {S : List Sec} {k : Nat} {p : Int} (h : (atS S k).worn = true ∨ ((atS S k).next = (atS S k).text ∧ (atS S k).text.size = 64)) : settleAt S k p = S.set k (struck (atS S k)) := by
  unfold settleAt settleS struck
  congr 1
  rcases h with h | ⟨h, hs⟩
  · rw [if_pos h]
  · split
    · rfl
    · rw [h]
      have hc := clampP_le p
      have e : (atS S k).text.extract 0 (clampP p) ++ (atS S k).text.extract (clampP p) 64 = (atS S k).text := by
        refine nums_inj ?_
        rw [nums_append, nums_extract, nums_extract, Nat.sub_zero, List.drop_zero]
        rw [List.take_of_length_le (l := (nums (atS S k).text).drop (clampP p)) (by rw [List.length_drop, nums_len, hs]; omega), List.take_append_drop]
      rw [e]
theorem cellsB_settle {a b : ByteArray} {m : Nat} (ha : a.size = 64) (hb : b.size = 64) (hm : m ≤ 64) : cellsB (a.extract 0 m ++ b.extract m 64) = spl (cellsB b) 0 ((cellsB a).take m) := by
  rw [spl_eq _ _ _ (by rw [List.length_take, cellsB_len, cellsB_len]; omega)]
  unfold cellsB
  rw [nums_append, nums_extract, nums_extract, Nat.sub_zero, List.drop_zero, List.take_of_length_le (l := (nums b).drop m) (by rw [List.length_drop, nums_len, hb]; omega)]
  rw [List.map_append, List.map_take, List.map_drop, List.take_zero, List.nil_append, Nat.zero_add, List.length_take, List.length_map, nums_len, ha, Nat.min_eq_left hm]
theorem DiskIn.copied {lo hi b g mb wb c : Nat} {l : Int} {P W : DataW Unit} {D : Dk} {w : World} {k m : Nat} {p : Int} (h : DiskIn w lo hi b g mb wb c l P W { D with s := D.s.set k (struck (atS D.s k)) }) (hk : k < D.s.length)
    (hn : (atS D.s k).next.size = 64) (ht : (atS D.s k).text.size = 64) (hw : (atS D.s k).worn = false) (hm : clampP p = m) :
    DiskIn (w.setCells g (k * 64) ((cellsB (atS D.s k).next).take m)) lo hi b g mb wb c l P W { D with s := settleAt D.s k p } ∧ Turn lo hi w (w.setCells g (k * 64) ((cellsB (atS D.s k).next).take m)) := by
  have hm64 : m ≤ 64 := by rw [← hm]; exact clampP_le p
  have hk2 : k < (D.s.set k (struck (atS D.s k))).length := by simpa using hk
  have hat : atS (D.s.set k (struck (atS D.s k))) k = struck (atS D.s k) := by rw [atS_set hk, if_pos rfl]
  have hlen : ((cellsB (atS D.s k).next).take m).length = m := by rw [List.length_take, cellsB_len, hn]; omega
  have hbl := blocksC_len h.ok.1
  have hrow := RowAt.setCells ((cellsB (atS D.s k).next).take m) _ (k * 64) w h.row (by rw [hbl, hlen]; simp only [List.length_set]; omega)
  have hx : settleS (atS D.s k) (clampP p) = { text := (atS D.s k).next.extract 0 m ++ (atS D.s k).text.extract m 64, next := ByteArray.empty, dirty := false, worn := false } := by
    unfold settleS
    rw [if_neg (by rw [hw]; simp), hm, hw]
  have hspl := chunkm_spl (f := fun x : Sec => cellsB x.text) (D.s.set k (struck (atS D.s k))) (blocks_each h.ok.1) k 0 ((cellsB (atS D.s k).next).take m) (settleS (atS D.s k) (clampP p)) hk2 (by rw [hlen]; omega) (by
    rw [← atS_get hk2, hat, hx]
    exact cellsB_settle hn ht hm64)
  rw [Nat.add_zero, List.set_set] at hspl
  have hrow2 : RowAt (w.setCells g (k * 64) ((cellsB (atS D.s k).next).take m)) g 74 (blocksC ((D.s.set k (struck (atS D.s k))).set k (settleS (atS D.s k) (clampP p)))) := by
    rw [List.set_set]
    have e : spl (blocksC (D.s.set k (struck (atS D.s k)))) (k * 64) ((cellsB (atS D.s k).next).take m) = blocksC (D.s.set k (settleS (atS D.s k) (clampP p))) := hspl
    rw [← e]
    exact hrow
  have hfin := h.setRow (x := settleS (atS D.s k) (clampP p)) hk2 ⟨by rw [hx]; show (_ ++ _ : ByteArray).size = 64; rw [ByteArray.size_append, extract_size, extract_size]; omega, fun e => by rw [hx] at e; cases e⟩ (by rw [hat]; rfl) (by rw [hat]; rfl) (by rw [hat]; rfl) (Turn.setCells (Nat.le_refl g) (Nat.lt_succ_self g) _ _ _) hrow2
  rw [show ({ D with s := D.s.set k (struck (atS D.s k)) } : Dk).s = D.s.set k (struck (atS D.s k)) from rfl, List.set_set] at hfin
  exact hfin
set_option maxHeartbeats 2000000 in
set_option maxRecDepth 100000 in
theorem settle_any (q : Value) (D : Dk) (k : Nat) (p : Int) (w : World) (lo hi : Nat) (h : DiskAt w lo hi q D) (hk : k < D.s.length) (hd : (atS D.s k).dirty = true) :
    Calls Try.prog 51 #[q, .int .i64 k, .int .i64 p] w fun e w' => e = .returned (.tuple #[]) ∧ DiskAt w' lo hi q { D with s := settleAt D.s k p } ∧ Turn lo hi w w' := by
  obtain ⟨b, g, mb, wb, c, l, P, W, rfl, h⟩ := h
  have c1 := h.c1
  have hi64 : -9223372036854775808 ≤ (k : Int) ∧ (k : Int) ≤ 9223372036854775807 := by have := h.ok.1.2.1; omega
  have hl0 := look_pend0 h.pend h.pv (i64ok_mk hi64)
  have hpo := pendOr_dirty hk hd
  have hps := pendOr_size h.ok.1 (k : Int)
  rw [hpo] at hl0 hps
  have hzb := zero_block
  have hzs : (cellsB zeros).toArray.size = 64 := (cellsB_size zeros).trans zeros_size
  have hcs := cellsB_size (atS D.s k).next
  rw [hps] at hcs
  have hall := cellsB_all (atS D.s k).next
  have HPS := hidep hps
  have HK := hidep hk
  have hbl := h.top.lt
  have hst0 : ∀ Z : Array Value, Z.size = 64 → (storeCells ⟨w.heap.size, 0, none⟩ (cellsB (atS D.s k).next).toArray.toList 0).run Try.prog (w.alloc (.cells Z 74)) = .ok () (w.alloc (.cells (cellsB (atS D.s k).next).toArray 74)) := fun Z hZ => run_storeCells_new (P := Try.prog) w 74 Z _ (by rw [hcs]; exact info_block) (by rw [hcs, hZ]) hall
  have hst := hst0 _ hzs
  have h1 : DiskIn (w.alloc (.cells (cellsB (atS D.s k).next).toArray 74)) lo hi b g mb wb c l P W D := h.keep (lo' := hi) (hi' := hi) (Turn.alloc _) (.inl (Nat.le_refl _))
  have H1 := hidep h1
  have HMN : Hid (mb < w.heap.size) := hidep h.pend.lt
  have hpm := h1.pend
  clear hst0 hall h1 h hpo hps
  generalize hCL : cellsB (atS D.s k).next = CL at *
  have HCL := hidep hCL
  clear hCL
  generalize (cellsB zeros).toArray = Z at *
  go_enter Try.func51, Try.ntmps51
  go_upto_region 2 with (first
    | (refine wpList_alloc_row (o := ⟨some 6, _, _, _, _, _⟩) hzb _ rfl rfl ?_)
    | (at_delete; refine wpList_delete_own _ rfl _ _ 68 3 rfl 74 keyedInt Try.underlying68 _ mb _ _ rfl hpm _ _ rfl (keyI (i64ok_mk hi64)) ?_; intro w2 hown2 hturn2)
    | fail)
  clear hpm hl0 hzb hzs hst hcs c1
  have hgr := hturn2.grown
  have hblk : w2.heap[w.heap.size]? = some (.cells CL.toArray 74 (0, 0)) := (hgr.block _ (by simp) (by intro e; injection e with e; have := HMN.out; omega)).trans (heap_alloc_new _ _)
  obtain ⟨h2, hT2⟩ := H1.out.delPend HK.out hown2 hgr
  have HT2 : Hid (Turn lo hi w w2) := hidep ((Turn.alloc _).trans hT2)
  clear hown2 hturn2 hgr hT2 H1 HMN
  have hk2 : k < (D.s.set k (struck (atS D.s k))).length := by simpa using hk
  have hwk : wornAt (D.s.set k (struck (atS D.s k))) (k : Int) = (atS D.s k).worn := by rw [wornAt_nat hk2, atS_set hk, if_pos rfl]; rfl
  have hlw : ∀ n, (Instr.lookup 69 (.map (some wb)) (.int .i64 k) false).run Try.prog (w2.drewN n) = .ok (.bool (atS D.s k).worn) (w2.drewN n) := fun n => by
    have := look_worn0 (w := w2.drewN n) (ownsMap_block h2.worn rfl) h2.wv (i64ok_mk hi64)
    rw [hwk] at this
    exact this
  have c0 := h2.c0
  have c2 := h2.c2
  rw [show ({ D with s := D.s.set k (struck (atS D.s k)) } : Dk).s.length = D.s.length by simp] at c0
  have hmx := h2.ok.1.2.1
  rw [show ({ D with s := D.s.set k (struck (atS D.s k)) } : Dk).s.length = D.s.length by simp] at hmx
  have HD2 := hidep h2
  have hrg1 : w2.rangeAt w.heap.size 0 CL := fun j v hv => by simp only [World.cell?, hblk]; simpa using hv
  have hlen1 : CL.length = 64 := by rw [← HCL.out, cellsB_len, HPS.out]
  have hxt : (atS (D.s.set k (struck (atS D.s k))) k).text = (atS D.s k).text := by rw [atS_set hk, if_pos rfl]; rfl
  have hrg2 := block_at h2.row h2.ok.1 hk2
  rw [hxt] at hrg2
  have hts := (h2.ok.1.at hk2).1
  rw [hxt] at hts
  have HNE := hidep (fun W : World => neq_block W (atS D.s k).next (atS D.s k).text HPS.out hts)
  have hlen2 : (cellsB (atS D.s k).text).length = 64 := by rw [cellsB_len, hts]
  rw [HCL.out] at HNE
  generalize hCT : cellsB (atS D.s k).text = CT at *
  have HCT := hidep hCT
  have HTS := hidep hts
  have HR1 := hidep hrg1
  have HR2 := hidep hrg2
  have HL1 := hidep hlen1
  have HL2 := hidep hlen2
  clear hrg1 hrg2 hlen1 hlen2 hxt hts hCT
  cases hw : (atS D.s k).worn with
  | true =>
    have HE := hidep (settle_keeps (S := D.s) (k := k) (p := p) (.inl hw))
    rw [hw] at hlw
    clear hwk hw hd h2 hblk
    refine wp_region_quiet_lit (by kernel_rfl) (by kernel_rfl) ?_
    iterate 5 (first | go_big_quiet_step (fail) | quiet_step (fail))
    refine wpQuiet_run (by rfl) (.bool true) (by rintro W' ⟨n, rfl⟩; exact run_lookup_op (by rfl) (by rfl) (by rfl) (hlw n)) ?_
    simp only [Act.put, List.setIfInBounds_toArray, List.set_cons_zero, List.set_cons_succ]
    iterate 12 (first | go_big_quiet_step (fail) | quiet_step (fail))
    refine wpQuiet_nil ?_
    intro _ hw'
    obtain ⟨nq, hw''⟩ := hw'
    subst hw''
    go_wp2
    go_end0
    refine ⟨rfl, ⟨b, g, mb, wb, c, l, P.del (kI (k : Int)), W, rfl, ?_⟩, HT2.out.trans (Turn.drewN nq)⟩
    rw [HE.out]
    exact HD2.out.keep (lo' := hi) (hi' := hi) (Turn.drewN nq) (.inl (Nat.le_refl _))
  | false =>
    have HW := hidep hw
    rw [hw] at hlw
    have hI0 : 0 ≤ (k : Int) := by omega
    have hI1 : (k : Int) < (D.s.length : Int) := by omega
    clear hwk hw hd h2 hblk
    refine wp_region_quiet_lit (by kernel_rfl) (by kernel_rfl) ?_
    iterate 5 (first | go_big_quiet_step (fail) | quiet_step (fail))
    refine wpQuiet_run (by rfl) (.bool false) (by rintro W' ⟨n, rfl⟩; exact run_lookup_op (by rfl) (by rfl) (by rfl) (hlw n)) ?_
    simp only [Act.put, List.setIfInBounds_toArray, List.set_cons_zero, List.set_cons_succ]
    iterate 2 (first | go_big_quiet_step (fail) | quiet_step (fail))
    refine wpQuiet_run (by rfl) (.agg CL.toArray) (by rintro W' ⟨n, rfl⟩; exact run_load_op (by rfl) (by rfl) (run_loadAt_mid (w2.drewN n) w.heap.size 0 74 CL _ HR1.out Try.underlying74 rfl (by rw [HL1.out]; exact info_block))) ?_
    simp only [Act.put, List.setIfInBounds_toArray, List.set_cons_zero, List.set_cons_succ]
    iterate 6 (first | go_big_quiet_step (fail) | quiet_step (fail))
    refine wpQuiet_run (by rfl) (.agg CT.toArray) (by rintro W' ⟨n, rfl⟩; exact run_load_op (by rfl) (by rfl) (run_loadAt_mid (w2.drewN n) g (k * 64) 74 CT _ HR2.out Try.underlying74 rfl (by rw [HL2.out]; exact info_block))) ?_
    simp only [Act.put, List.setIfInBounds_toArray, List.set_cons_zero, List.set_cons_succ]
    refine wpQuiet_run (by rfl) (.bool (!decide ((atS D.s k).next = (atS D.s k).text))) (by rintro W' ⟨n, rfl⟩; exact run_neq_op (by rfl) (by rfl) (by rfl) (guard_block _ _ _ _ _ _) (HNE.out _)) ?_
    simp only [Act.put, List.setIfInBounds_toArray, List.set_cons_zero, List.set_cons_succ]
    quiet_step (fail)
    refine wpQuiet_nil ?_
    intro _ hw'
    obtain ⟨nq, hw''⟩ := hw'
    subst hw''
    generalize hdec : decide ((atS D.s k).next = (atS D.s k).text) = dq
    cases dq with
    | true =>
      have HE := hidep (settle_keeps (S := D.s) (k := k) (p := p) (.inr ⟨of_decide_eq_true hdec, HTS.out⟩))
      clear hdec
      simp only [Bool.not_true]
      go_wp2
      go_end0
      refine ⟨rfl, ⟨b, g, mb, wb, c, l, P.del (kI (k : Int)), W, rfl, ?_⟩, HT2.out.trans (Turn.drewN nq)⟩
      rw [HE.out]
      exact HD2.out.keep (lo' := hi) (hi' := hi) (Turn.drewN nq) (.inl (Nat.le_refl _))
    | false =>
      clear hdec hlw HNE c2
      have HD3 := hidep (HD2.out.keep (lo' := hi) (hi' := hi) (Turn.drewN (nq + 1)) (.inl (Nat.le_refl _)))
      have HT3 := hidep (HT2.out.trans (Turn.drewN (nq + 1)))
      have HR3 : Hid ((w2.drewN (nq + 1)).rangeAt w.heap.size 0 CL) := hidep HR1.out
      have HC3 := hidep (fun m hm => (HD3.out.copied (p := p) (m := m) HK.out HPS.out HTS.out HW.out hm))
      rw [HCL.out] at HC3
      have HTH : Hid ((w2.drewN (nq + 1)).there g (k * 64) 64) := hidep (HD3.out.row.there (by rw [blocksC_len HD3.out.ok.1]; simp only [List.length_set]; have := HK.out; omega))
      have hone : ∀ v ∈ CL, v.oneCell' = true := by rw [← HCL.out]; exact cellsB_one _
      have HONE := hidep hone
      clear hone
      obtain ⟨m, hm⟩ : ∃ m, clampP p = m := ⟨_, rfl⟩
      have hm64 : m ≤ 64 := by rw [← hm]; exact clampP_le p
      have HM := hidep hm
      have hmm : max 0 (min p 64) = (m : Int) := by rw [← hm]; unfold clampP; omega
      clear hm
      have hsl := fun W => run_sliceAt_hi (P := Try.prog) Try.underlying74 size_byte g (k * 64) hm64 W
      generalize D.s.length = n at c0 hI1 hmx hk
      simp only [Bool.not_false]
      go_upto_region 3 with (fail)
      go_region_law (first
        | (refine step_copy_cells _ (by rfl) (.tmp 45) (.tmp 46) 72 72 5 (by rfl) Try.underlying72 (by kernel_rfl) g (k * 64) m 64 ⟨w.heap.size, 0, none⟩ 64 64 (by rfl) (by rfl) (CL.take m) (by rw [List.length_take, HL1.out]; exact Nat.min_comm m 64) (by exact take_src HR3.out) (by exact fun j hj => (HTH.out j (by rw [List.length_take] at hj; omega)).1) (by exact fun j hj => (HTH.out j (by rw [List.length_take] at hj; omega)).2) (by exact fun v hv => HONE.out v (List.mem_of_mem_take hv)) ?_; dsimp only)
        | fail)
      all_goals go_end0
      all_goals have hfin := HC3.out m HM.out
      all_goals exact ⟨rfl, ⟨b, g, mb, wb, c, l, P.del (kI (k : Int)), W, rfl, hfin.1⟩, HT3.out.trans hfin.2⟩
end Go.Proofs.Ytmgogmjkoealoaa
