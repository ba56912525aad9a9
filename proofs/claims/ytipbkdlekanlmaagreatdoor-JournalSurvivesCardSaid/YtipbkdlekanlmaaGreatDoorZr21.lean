/- Contract of the program's disk: settle. -/
import Derived.Test.YtipbkdlekanlmaaGreatDoorZr20
import Derived.Test.YtipbkdlekanlmaaGreatDoorZr03
namespace Go.Proofs.YtipbkdlekanlmaaGreatDoor
open Go.RowKit Go.Lab Go.Disk Go.Maps
theorem pendOr_dirty {S : List Sec} {k : Nat} (hk : k < S.length) (hd : (atS S k).dirty = true) : pendOr S (k : Int) = (atS S k).next := by
  unfold pendOr pendAt
  rw [Int.toNat_natCast, if_pos ⟨by omega, hk, hd⟩]; rfl
theorem wornAt_nat {S : List Sec} {k : Nat} (hk : k < S.length) : wornAt S (k : Int) = (atS S k).worn := by
  unfold wornAt
  rw [Int.toNat_natCast]
  simp [hk]
theorem step_copy_cells {P : Program} (w : World) {ops : Array Oper} {o : Oper} {a : Act} {K : Act → World → Prop} {Q : Exit → Act → World → Prop} {E : Prop} (hgd : o.guard = none) (d s : Operand) (dT sT elem : TypeId)
    (ho : o.op = .call { callee := .builtin .copy, args := #[d, s], argTypes := #[dT, sT] }) (hu : P.underlying dT = some (.slice elem)) (hs : (P.info? elem).map (·.size) = some 1)
    (b off dLen dCap : Nat) (ad : Addr) (sLen sCap : Nat) (hd : a.eval d = .slice (some ⟨b, off, none⟩) dLen dCap) (hx : a.eval s = .slice (some ad) sLen sCap) (cs : List Value) (hn : cs.length = Nat.min sLen dLen)
    (hsrc : ∀ j v, cs[j]? = some v → w.cell? (ad.add j) = some v) (hc : ∀ j, j < cs.length → (w.cell? ⟨b, off + j, none⟩).isSome = true) (hf : ∀ j, j < cs.length → w.frozen? ⟨b, off + j, none⟩ = false) (h1 : ∀ v ∈ cs, v.oneCell' = true)
    (h : K (a.put o.dst (goInt cs.length)) (w.setCells b off cs)) : if Region.wanted o (yielded ops a.tmps) = true then Oper.wp P o a w K Q else E := by
  have hw : Region.wanted o (yielded ops a.tmps) = true := by simp [Region.wanted, hgd]
  rw [if_pos hw]
  have hrun := run_copy_cells (P := P) w dT sT o.type elem b off dLen dCap ad sLen sCap cs hu hs hn hsrc hc hf h1
  unfold Oper.wp
  simp [execOp, ho, resolve, invoke, builtin, hd, hx, hrun, Result.andThen]
  exact h
theorem load_cells_any {P : Program} {w : World} {g o : Nat} {cs : List Value} (h : w.rangeAt g o cs) {n : Nat} (hn : cs.length = n) : (loadCellsFrom ⟨g, o, none⟩ 0 n #[]).run P w = .ok cs.toArray w := by
  have := run_loadCells_list (P := P) w ⟨g, o, none⟩ cs (fun j v hv => by rw [Addr.add_mid]; exact h j v hv)
  rw [hn] at this
  exact this
theorem block_at {w : World} {g : Nat} {S : List Sec} (h : RowAt w g 86 (blocksC S)) (hok : SOk S) {k : Nat} (hk : k < S.length) : w.rangeAt g (k * 64) (cellsB (atS S k).text) := fun j v hv => by
  have hs := (hok.at hk).1
  have hj : j < 64 := by rw [← hs, ← cellsB_len]; exact (List.getElem?_eq_some_iff.1 hv).1
  rw [cellsB_get _ (by rw [hs]; exact hj)] at hv
  rw [h.cell (blocksC_get hok hk hj)]
  exact hv
theorem wpQuiet_run {P : Program} {ops : Array Oper} {C : World → Prop} {Q : Act → Prop} {rest : List Oper} {o : Oper} {a : Act} (hw : Region.wanted o (yielded ops a.tmps) = true) (v : Value)
    (h : ∀ w, C w → (execOp a.eval o).run P w = .ok (.value v) w) (hk : wpQuiet P ops C Q rest (a.put o.dst v)) : wpQuiet P ops C Q (o :: rest) a :=
  BigFrame.wpQuiet_want hw fun _ hK => ⟨v, fun w hC => by unfold Oper.quietAt; rw [h w hC]; exact ⟨rfl, rfl⟩, hK _ hk⟩
theorem run_lookup_op {P : Program} {o : Oper} {a : Act} {t : TypeId} {m x : Operand} {c : Bool} {mv key v : Value} {w : World} (ho : o.op = .lookup t m x c) (hm : a.eval m = mv) (hx : a.eval x = key) (h : (Instr.lookup t mv key c).run P w = .ok v w) : (execOp a.eval o).run P w = .ok (.value v) w := by
  unfold execOp
  simp only [ho, hm, hx, h, Sem.run_bind, Sem.run_pure, Result.andThen_ok]
theorem run_load_op {P : Program} {o : Oper} {a : Act} {t : TypeId} {x : Operand} {pv v : Value} {w : World} (ho : o.op = .load t x) (hx : a.eval x = pv) (h : (Instr.loadAt t pv).run P w = .ok v w) : (execOp a.eval o).run P w = .ok (.value v) w := by
  unfold execOp
  simp only [ho, hx, h, Sem.run_bind, Sem.run_pure, Result.andThen_ok]
theorem run_neq_op {P : Program} {o : Oper} {a : Act} {t u : TypeId} {x y : Operand} {xv yv v : Value} {w : World} (ho : o.op = .binOp .neq t x y u) (hx : a.eval x = xv) (hy : a.eval y = yv) (hg : (eqGuard .neq t x y xv yv).run P w = .ok () w) (h : (binOp .neq t xv yv).run P w = .ok v w) : (execOp a.eval o).run P w = .ok (.value v) w := by
  unfold execOp
  simp only [ho, hx, hy, hg, h, Sem.run_bind, Sem.run_pure, Result.andThen_ok]
theorem run_sliceAt_hi {P : Program} {arr e : TypeId} {n size : Nat} (hu : P.underlying arr = some (.array n e)) (hs : ∀ w, (sizeOf e).run P w = .ok size w) (g o : Nat) {m : Nat} (hm : m ≤ n) (w : World) :
    (Instr.sliceAt arr (.pointer (some ⟨g, o, none⟩)) none (some (.int .i64 (m : Int))) none).run P w = .ok (.slice (some ⟨g, o, none⟩) m n) w := by
  have h2 : (0 : Int) ≤ (m : Int) := by omega
  simp [Instr.sliceAt, run_underlying hu, Instr.sureAddr, Instr.sliceBounds, Instr.sliceBound, asIntOf, hs, h2, hm, Addr.add_mid, Result.andThen]
theorem take_src {w : World} {g : Nat} {cs : List Value} (h : w.rangeAt g 0 cs) {m : Nat} : ∀ j v, (cs.take m)[j]? = some v → w.cell? ((⟨g, 0, none⟩ : Addr).add j) = some v := fun j v hv => by
  rw [Addr.add_mid]
  rw [List.getElem?_take] at hv
  split at hv
  · exact h j v hv
  · cases hv
/-- what is left of a sector whose pending content is struck -/
def struck (x : Sec) : Sec := { text := x.text, next := ByteArray.empty, dirty := false, worn := x.worn }
theorem DiskIn.delPend {lo hi b g mb wb c : Nat} {l : Int} {P W : DataW Unit} {D : Dk} {w w' : World} (h : DiskIn w lo hi b g mb wb c l P W D) {k : Nat} (hk : k < D.s.length) {m : Nat}
    (hm : w'.ownsMap Tryz.prog 3 blockElem mb m (P.del (kI (k : Int)))) (hg : w.grownBy w' (some mb)) :
    DiskIn w' lo hi b g mb wb c l (P.del (kI (k : Int))) W { D with s := D.s.set k (struck (atS D.s k)) } ∧ Turn lo hi w w' := by
  have n1 := ownsMap_ne h.pend h.top
  have n2 := ownsMap_ne h.pend h.row
  have n3 := h.ne
  refine ⟨h.setMaps hk ⟨(h.ok.1.at hk).1, fun e => by cases e⟩ rfl hg.size (keep_of_grown hg h.top.lt (Ne.symm n1)) (keep_of_grown hg h.row.lt (Ne.symm n2)) (ownsMap_size hm) (ownsMap_block h.worn (keep_of_grown hg h.worn.lt (Ne.symm n3))) (h.pv.del hk rfl) (h.wv.same hk rfl), Turn.grown hg (fun q e => by injection e with e; subst e; exact h.hm)⟩
theorem settle_keeps {S : List Sec} {k : Nat} {p : Int} (h : (atS S k).worn = true ∨ ((atS S k).next = (atS S k).text ∧ (atS S k).text.size = 64)) : settleAt S k p = S.set k (struck (atS S k)) := by
  unfold settleAt settleS struck
  congr 1
  rcases h with h | ⟨h, hs⟩
  · rw [if_pos h]
  · split
    · rfl
    · rw [h]
      have hc := clampP_le p
      have e : (atS S k).text.extract 0 (clampP p) ++ (atS S k).text.extract (clampP p) 64 = (atS S k).text := by
        refine nums_inj ?_
        rw [nums_append, nums_extract, nums_extract, Nat.sub_zero, List.drop_zero]
        rw [List.take_of_length_le (l := (nums (atS S k).text).drop (clampP p)) (by rw [List.length_drop, nums_len, hs]; omega), List.take_append_drop]
      rw [e]
theorem cellsB_settle {a b : ByteArray} {m : Nat} (ha : a.size = 64) (hb : b.size = 64) (hm : m ≤ 64) : cellsB (a.extract 0 m ++ b.extract m 64) = spl (cellsB b) 0 ((cellsB a).take m) := by
  rw [spl_eq _ _ _ (by rw [List.length_take, cellsB_len, cellsB_len]; omega)]
  unfold cellsB
  rw [nums_append, nums_extract, nums_extract, Nat.sub_zero, List.drop_zero, List.take_of_length_le (l := (nums b).drop m) (by rw [List.length_drop, nums_len, hb]; omega)]
  rw [List.map_append, List.map_take, List.map_drop, List.take_zero, List.nil_append, Nat.zero_add, List.length_take, List.length_map, nums_len, ha, Nat.min_eq_left hm]
theorem DiskIn.copied {lo hi b g mb wb c : Nat} {l : Int} {P W : DataW Unit} {D : Dk} {w : World} {k m : Nat} {p : Int} (h : DiskIn w lo hi b g mb wb c l P W { D with s := D.s.set k (struck (atS D.s k)) }) (hk : k < D.s.length)
    (hn : (atS D.s k).next.size = 64) (ht : (atS D.s k).text.size = 64) (hw : (atS D.s k).worn = false) (hm : clampP p = m) :
    DiskIn (w.setCells g (k * 64) ((cellsB (atS D.s k).next).take m)) lo hi b g mb wb c l P W { D with s := settleAt D.s k p } ∧ Turn lo hi w (w.setCells g (k * 64) ((cellsB (atS D.s k).next).take m)) := by
  have hm64 : m ≤ 64 := by rw [← hm]; exact clampP_le p
  have hk2 : k < (D.s.set k (struck (atS D.s k))).length := by simpa using hk
  have hat : atS (D.s.set k (struck (atS D.s k))) k = struck (atS D.s k) := by rw [atS_set hk, if_pos rfl]
  have hlen : ((cellsB (atS D.s k).next).take m).length = m := by rw [List.length_take, cellsB_len, hn]; omega
  have hbl := blocksC_len h.ok.1
  have hrow := RowAt.setCells ((cellsB (atS D.s k).next).take m) _ (k * 64) w h.row (by rw [hbl, hlen]; simp only [List.length_set]; omega)
  have hx : settleS (atS D.s k) (clampP p) = { text := (atS D.s k).next.extract 0 m ++ (atS D.s k).text.extract m 64, next := ByteArray.empty, dirty := false, worn := false } := by
    unfold settleS
    rw [if_neg (by rw [hw]; simp), hm, hw]
  have hspl := chunkm_spl (f := fun x : Sec => cellsB x.text) (D.s.set k (struck (atS D.s k))) (blocks_each h.ok.1) k 0 ((cellsB (atS D.s k).next).take m) (settleS (atS D.s k) (clampP p)) hk2 (by rw [hlen]; omega) (by
    rw [← atS_get hk2, hat, hx]
    exact cellsB_settle hn ht hm64)
  rw [Nat.add_zero, List.set_set] at hspl
  have hrow2 : RowAt (w.setCells g (k * 64) ((cellsB (atS D.s k).next).take m)) g 86 (blocksC ((D.s.set k (struck (atS D.s k))).set k (settleS (atS D.s k) (clampP p)))) := by
    rw [List.set_set]
    have e : spl (blocksC (D.s.set k (struck (atS D.s k)))) (k * 64) ((cellsB (atS D.s k).next).take m) = blocksC (D.s.set k (settleS (atS D.s k) (clampP p))) := hspl
    rw [← e]
    exact hrow
  have hfin := h.setRow (x := settleS (atS D.s k) (clampP p)) hk2 ⟨by rw [hx]; show (_ ++ _ : ByteArray).size = 64; rw [ByteArray.size_append, extract_size, extract_size]; omega, fun e => by rw [hx] at e; cases e⟩ (by rw [hat]; rfl) (by rw [hat]; rfl) (by rw [hat]; rfl) (Turn.setCells (Nat.le_refl g) (Nat.lt_succ_self g) _ _ _) hrow2
  rw [show ({ D with s := D.s.set k (struck (atS D.s k)) } : Dk).s = D.s.set k (struck (atS D.s k)) from rfl, List.set_set] at hfin
  exact hfin
set_option maxHeartbeats 2000000 in
set_option maxRecDepth 100000 in
theorem settle_any (q : Value) (D : Dk) (k : Nat) (p : Int) (w : World) (lo hi : Nat) (h : DiskAt w lo hi q D) (hk : k < D.s.length) (hd : (atS D.s k).dirty = true) :
    Calls Tryz.prog 65 #[q, .int .i64 k, .int .i64 p] w fun e w' => e = .returned (.tuple #[]) ∧ DiskAt w' lo hi q { D with s := settleAt D.s k p } ∧ Turn lo hi w w' := by
  obtain ⟨b, g, mb, wb, c, l, P, W, rfl, h⟩ := h
  have c1 := h.c1
  have hi64 : -9223372036854775808 ≤ (k : Int) ∧ (k : Int) ≤ 9223372036854775807 := by have := h.ok.1.2.1; omega
  have hl0 := look_pend0 h.pend h.pv (i64ok_mk hi64)
  have hpo := pendOr_dirty hk hd
  have hps := pendOr_size h.ok.1 (k : Int)
  rw [hpo] at hl0 hps
  have hzb := zero_block
  have hzs : (cellsB zeros).toArray.size = 64 := (cellsB_size zeros).trans zeros_size
  have hcs := cellsB_size (atS D.s k).next
  rw [hps] at hcs
  have hall := cellsB_all (atS D.s k).next
  have HPS := hidep hps
  have HK := hidep hk
  have hbl := h.top.lt
  have hst0 : ∀ Z : Array Value, Z.size = 64 → (storeCells ⟨w.heap.size, 0, none⟩ (cellsB (atS D.s k).next).toArray.toList 0).run Tryz.prog (w.alloc (.cells Z 86)) = .ok () (w.alloc (.cells (cellsB (atS D.s k).next).toArray 86)) := fun Z hZ => run_storeCells_new (P := Tryz.prog) w 86 Z _ (by rw [hcs]; exact info_block) (by rw [hcs, hZ]) hall
  have hst := hst0 _ hzs
  have h1 : DiskIn (w.alloc (.cells (cellsB (atS D.s k).next).toArray 86)) lo hi b g mb wb c l P W D := h.keep (lo' := hi) (hi' := hi) (Turn.alloc _) (.inl (Nat.le_refl _))
  have H1 := hidep h1
  have HMN : Hid (mb < w.heap.size) := hidep h.pend.lt
  have hpm := h1.pend
  clear hst0 hall h1 h hpo hps
  generalize hCL : cellsB (atS D.s k).next = CL at *
  have HCL := hidep hCL
  clear hCL
  generalize (cellsB zeros).toArray = Z at *
  go_enter Tryz.func65, Tryz.ntmps65
  go_upto_region 2 with (first
    | (refine wpList_alloc_rowD (o := ⟨some 6, _, _, _, _, _⟩) hzb _ rfl rfl ?_)
    | (at_delete; refine wpList_delete_own _ rfl _ _ 75 3 rfl 86 keyedInt Tryz.underlying75 _ mb _ _ rfl hpm _ _ rfl (keyI (i64ok_mk hi64)) ?_; intro w2 hown2 hturn2)
    | fail)
  clear hpm hl0 hzb hzs hst hcs c1
  have hgr := hturn2.grown
  have hblk : w2.heap[w.heap.size]? = some (.cells CL.toArray 86 (0, 0)) := (hgr.block _ (by simp) (by intro e; injection e with e; have := HMN.out; omega)).trans (heap_alloc_new _ _)
  obtain ⟨h2, hT2⟩ := H1.out.delPend HK.out hown2 hgr
  have HT2 : Hid (Turn lo hi w w2) := hidep ((Turn.alloc _).trans hT2)
  clear hown2 hturn2 hgr hT2 H1 HMN
  have hk2 : k < (D.s.set k (struck (atS D.s k))).length := by simpa using hk
  have hwk : wornAt (D.s.set k (struck (atS D.s k))) (k : Int) = (atS D.s k).worn := by rw [wornAt_nat hk2, atS_set hk, if_pos rfl]; rfl
  have hlw : ∀ n, (Instr.lookup 45 (.map (some wb)) (.int .i64 k) false).run Tryz.prog (w2.drewN n) = .ok (.bool (atS D.s k).worn) (w2.drewN n) := fun n => by
    have := look_worn0 (w := w2.drewN n) (ownsMap_block h2.worn rfl) h2.wv (i64ok_mk hi64)
    rw [hwk] at this
    exact this
  have c0 := h2.c0
  have c2 := h2.c2
  rw [show ({ D with s := D.s.set k (struck (atS D.s k)) } : Dk).s.length = D.s.length by simp] at c0
  have hmx := h2.ok.1.2.1
  rw [show ({ D with s := D.s.set k (struck (atS D.s k)) } : Dk).s.length = D.s.length by simp] at hmx
  have HD2 := hidep h2
  have hrg1 : w2.rangeAt w.heap.size 0 CL := fun j v hv => by simp only [World.cell?, hblk]; simpa using hv
  have hlen1 : CL.length = 64 := by rw [← HCL.out, cellsB_len, HPS.out]
  have hxt : (atS (D.s.set k (struck (atS D.s k))) k).text = (atS D.s k).text := by rw [atS_set hk, if_pos rfl]; rfl
  have hrg2 := block_at h2.row h2.ok.1 hk2
  rw [hxt] at hrg2
  have hts := (h2.ok.1.at hk2).1
  rw [hxt] at hts
  have HNE := hidep (fun W : World => neq_block W (atS D.s k).next (atS D.s k).text HPS.out hts)
  have hlen2 : (cellsB (atS D.s k).text).length = 64 := by rw [cellsB_len, hts]
  rw [HCL.out] at HNE
  generalize hCT : cellsB (atS D.s k).text = CT at *
  have HCT := hidep hCT
  have HTS := hidep hts
  have HR1 := hidep hrg1
  have HR2 := hidep hrg2
  have HL1 := hidep hlen1
  have HL2 := hidep hlen2
  clear hrg1 hrg2 hlen1 hlen2 hxt hts hCT
  cases hw : (atS D.s k).worn with
  | true =>
    have HE := hidep (settle_keeps (S := D.s) (k := k) (p := p) (.inl hw))
    rw [hw] at hlw
    clear hwk hw hd h2 hblk
    refine wp_region_quiet_lit (by kernel_rfl) (by kernel_rfl) ?_
    iterate 5 (first | go_big_quiet_step (fail) | quiet_step (fail))
    refine wpQuiet_run (by rfl) (.bool true) (by rintro W' ⟨n, rfl⟩; exact run_lookup_op (by rfl) (by rfl) (by rfl) (hlw n)) ?_
    simp only [Act.put, List.setIfInBounds_toArray, List.set_cons_zero, List.set_cons_succ]
    iterate 12 (first | go_big_quiet_step (fail) | quiet_step (fail))
    refine wpQuiet_nil ?_
    intro _ hw'
    obtain ⟨nq, hw''⟩ := hw'
    subst hw''
    go_wp2
    go_end0
    refine ⟨rfl, ⟨b, g, mb, wb, c, l, P.del (kI (k : Int)), W, rfl, ?_⟩, HT2.out.trans (Turn.drewN nq)⟩
    rw [HE.out]
    exact HD2.out.keep (lo' := hi) (hi' := hi) (Turn.drewN nq) (.inl (Nat.le_refl _))
  | false =>
    have HW := hidep hw
    rw [hw] at hlw
    have hI0 : 0 ≤ (k : Int) := by omega
    have hI1 : (k : Int) < (D.s.length : Int) := by omega
    clear hwk hw hd h2 hblk
    refine wp_region_quiet_lit (by kernel_rfl) (by kernel_rfl) ?_
    iterate 5 (first | go_big_quiet_step (fail) | quiet_step (fail))
    refine wpQuiet_run (by rfl) (.bool false) (by rintro W' ⟨n, rfl⟩; exact run_lookup_op (by rfl) (by rfl) (by rfl) (hlw n)) ?_
    simp only [Act.put, List.setIfInBounds_toArray, List.set_cons_zero, List.set_cons_succ]
    iterate 2 (first | go_big_quiet_step (fail) | quiet_step (fail))
    refine wpQuiet_run (by rfl) (.agg CL.toArray) (by rintro W' ⟨n, rfl⟩; exact run_load_op (by rfl) (by rfl) (run_loadAt_mid (w2.drewN n) w.heap.size 0 86 CL _ HR1.out Tryz.underlying86 rfl (by rw [HL1.out]; exact info_block))) ?_
    simp only [Act.put, List.setIfInBounds_toArray, List.set_cons_zero, List.set_cons_succ]
    iterate 6 (first | go_big_quiet_step (fail) | quiet_step (fail))
    refine wpQuiet_run (by rfl) (.agg CT.toArray) (by rintro W' ⟨n, rfl⟩; exact run_load_op (by rfl) (by rfl) (run_loadAt_mid (w2.drewN n) g (k * 64) 86 CT _ HR2.out Tryz.underlying86 rfl (by rw [HL2.out]; exact info_block))) ?_
    simp only [Act.put, List.setIfInBounds_toArray, List.set_cons_zero, List.set_cons_succ]
    refine wpQuiet_run (by rfl) (.bool (!decide ((atS D.s k).next = (atS D.s k).text))) (by rintro W' ⟨n, rfl⟩; exact run_neq_op (by rfl) (by rfl) (by rfl) (guard_block _ _ _ _ _ _) (HNE.out _)) ?_
    simp only [Act.put, List.setIfInBounds_toArray, List.set_cons_zero, List.set_cons_succ]
    quiet_step (fail)
    refine wpQuiet_nil ?_
    intro _ hw'
    obtain ⟨nq, hw''⟩ := hw'
    subst hw''
    generalize hdec : decide ((atS D.s k).next = (atS D.s k).text) = dq
    cases dq with
    | true =>
      have HE := hidep (settle_keeps (S := D.s) (k := k) (p := p) (.inr ⟨of_decide_eq_true hdec, HTS.out⟩))
      clear hdec
      simp only [Bool.not_true]
      go_wp2
      go_end0
      refine ⟨rfl, ⟨b, g, mb, wb, c, l, P.del (kI (k : Int)), W, rfl, ?_⟩, HT2.out.trans (Turn.drewN nq)⟩
      rw [HE.out]
      exact HD2.out.keep (lo' := hi) (hi' := hi) (Turn.drewN nq) (.inl (Nat.le_refl _))
    | false =>
      clear hdec hlw HNE c2
      have HD3 := hidep (HD2.out.keep (lo' := hi) (hi' := hi) (Turn.drewN (nq + 1)) (.inl (Nat.le_refl _)))
      have HT3 := hidep (HT2.out.trans (Turn.drewN (nq + 1)))
      have HR3 : Hid ((w2.drewN (nq + 1)).rangeAt w.heap.size 0 CL) := hidep HR1.out
      have HC3 := hidep (fun m hm => (HD3.out.copied (p := p) (m := m) HK.out HPS.out HTS.out HW.out hm))
      rw [HCL.out] at HC3
      have HTH : Hid ((w2.drewN (nq + 1)).there g (k * 64) 64) := hidep (HD3.out.row.there (by rw [blocksC_len HD3.out.ok.1]; simp only [List.length_set]; have := HK.out; omega))
      have hone : ∀ v ∈ CL, v.oneCell' = true := by rw [← HCL.out]; exact cellsB_one _
      have HONE := hidep hone
      clear hone
      obtain ⟨m, hm⟩ : ∃ m, clampP p = m := ⟨_, rfl⟩
      have hm64 : m ≤ 64 := by rw [← hm]; exact clampP_le p
      have HM := hidep hm
      have hmm : max 0 (min p 64) = (m : Int) := by rw [← hm]; unfold clampP; omega
      clear hm
      have hsl := fun W => run_sliceAt_hi (P := Tryz.prog) Tryz.underlying86 size_byte g (k * 64) hm64 W
      generalize D.s.length = n at c0 hI1 hmx hk
      simp only [Bool.not_false]
      go_upto_region 3 with (fail)
      go_region_law (first
        | (refine step_copy_cells _ (by rfl) (.tmp 45) (.tmp 46) 81 81 5 (by rfl) Tryz.underlying81 (by kernel_rfl) g (k * 64) m 64 ⟨w.heap.size, 0, none⟩ 64 64 (by rfl) (by rfl) (CL.take m) (by rw [List.length_take, HL1.out]; exact Nat.min_comm m 64) (by exact take_src HR3.out) (by exact fun j hj => (HTH.out j (by rw [List.length_take] at hj; omega)).1) (by exact fun j hj => (HTH.out j (by rw [List.length_take] at hj; omega)).2) (by exact fun v hv => HONE.out v (List.mem_of_mem_take hv)) ?_; dsimp only)
        | fail)
      all_goals go_end0
      all_goals have hfin := HC3.out m HM.out
      all_goals exact ⟨rfl, ⟨b, g, mb, wb, c, l, P.del (kI (k : Int)), W, rfl, hfin.1⟩, HT3.out.trans hfin.2⟩
end Go.Proofs.YtipbkdlekanlmaaGreatDoor
/- Contracts of the program's disk: Flush, Mount. -/
namespace Go.Proofs.YtipbkdlekanlmaaGreatDoor
open Go.RowKit Go.Lab Go.Disk
theorem own_turn {w w' : World} {base lo hi : Nat} {e : TypeId} {k n : Nat} {v : Value} {xs : List Value} (h : w.ownsRow base e k v n xs) (hT : Turn lo hi w w') (hb : hi ≤ base) : w'.ownsRow base e k v n xs := by
  refine ⟨h.1, ?_⟩
  rcases h.2 with h2 | ⟨g, cap, cur, hv, hg, hh, r⟩
  · exact .inl h2
  · exact .inr ⟨g, cap, cur, hv, hg, (hT.block g (Go.lt_of_block hh) (by omega)).trans hh, r⟩
theorem cntD_all {S : List Sec} {j : Nat} (h : cntD S j = cntD S S.length) (hj : j ≤ S.length) (ps : List Int) : mid S ps j = mountS S ps := by
  rw [mid_eq ps hj (Nat.le_refl _) h, mid_all _ _ (Nat.le_refl _)]
theorem DiskAt.s_eq {w : World} {lo hi : Nat} {p : Value} {D : Dk} {s s' : List Sec} (h : DiskAt w lo hi p { D with s := s }) (e : s = s') : DiskAt w lo hi p { D with s := s' } := by rw [← e]; exact h
set_option maxHeartbeats 1000000 in
set_option maxRecDepth 100000 in
theorem flush_any (p : Value) (D : Dk) (w : World) (lo hi : Nat) (h : DiskAt w lo hi p D) :
    Calls Tryz.prog 82 #[p] w fun e w' => e = .returned (.int .i64 (flushE D)) ∧ DiskAt w' lo hi p (flushD D) ∧ Turn lo hi w w' := by
  have HC := hidep (fun W hW => check_any p D 0 W lo hi (hW : DiskAt W lo hi p D))
  have HS := hidep (fun W hW => step_any p D W lo hi (hW : DiskAt W lo hi p D))
  have H := hidep h
  have hpt : ∃ b, p = .pointer (some ⟨b, 0, none⟩) := by
    obtain ⟨b, g, mb, wb, c, l, P, W, hp, _⟩ := h
    exact ⟨b, hp⟩
  obtain ⟨b, rfl⟩ := hpt
  have hin : D.isIn 0 = true := isIn_mk (k := 0) (by have := h.ok.1.1; omega)
  clear h
  cases hoff : D.off with
  | true =>
    have HZ := hidep (flushE_off hoff)
    have HK := hidep (checkZ_off 0 hoff)
    clear hoff hin
    go_enter Tryz.func82, Tryz.ntmps82
    go_wp2_with (go_at_call 43; refine (HC.out _ H.out).mono ?_; rintro e w' ⟨rfl, rfl⟩; rw [HK.out])
    go_ret
    exact ⟨ret_val (congrArg _ HZ.out.1.symm), by rw [HZ.out.2]; exact H.out, Turn.refl _ _ _⟩
  | false =>
    have HK := hidep (checkZ_in hoff hin)
    by_cases hl : D.left = 0
    · have HZ := hidep (flushE_down hoff hl)
      have HE := hidep (stepE_0 hl)
      clear hoff hl hin
      go_enter Tryz.func82, Tryz.ntmps82
      go_wp2_with (first
        | (go_at_call 43; refine (HC.out _ H.out).mono ?_; rintro e w' ⟨rfl, rfl⟩; rw [HK.out])
        | (go_at_call 44; refine (HS.out _ H.out).mono ?_; rintro e w' ⟨rfl, hD, hT⟩; rw [HE.out]))
      go_ret
      exact ⟨ret_val (congrArg _ HZ.out.1.symm), by rw [HZ.out.2]; exact hD, hT⟩
    · have HZ := hidep (flushE_ok hoff hl)
      have HE := hidep (stepE_1 hl)
      have hs : (stepD D).s = D.s := stepD_s D
      have HSS := hidep hs
      have HP := hidep (fun W hW => pending_any (.pointer (some ⟨b, 0, none⟩)) (stepD D) W lo hi (hW : DiskAt W lo hi _ (stepD D)))
      rw [hs] at HP
      clear hoff hl hin hs
      go_enter Tryz.func82, Tryz.ntmps82
      go_wp2_with (first
        | (go_at_call 43; refine (HC.out _ H.out).mono ?_; rintro e w' ⟨rfl, rfl⟩; rw [HK.out])
        | (go_at_call 44; refine (HS.out _ H.out).mono ?_; rintro e w1 ⟨rfl, hD, hT⟩; rw [HE.out])
        | (go_at_call 64; refine (HP.out _ hD).mono ?_; rintro e w2 ⟨v, rfl, hown, hb2⟩; obtain ⟨av, cv, rfl, hc1, hc2⟩ := (Rd.of_own hown).form; have hn4 := hD.ok.1.2.1))
      have hrng := hD.rng
      have HB : Hid (hi ≤ w1.heap.size) := hidep hrng.2
      have hle := pendZ_le D.s 0
      have hn2 : (pendZ D.s 0).length ≤ 4096 := by rw [HSS.out] at hn4; omega
      have HO := hidep hown
      have HCN := hidep (pendZ_cnt D.s)
      have HD : Hid (DiskAt w2 lo hi (.pointer (some ⟨b, 0, none⟩)) { stepD D with s := mid D.s [] 0 }) := hidep ((hD.below hb2).s_eq (s := (stepD D).s) (by rw [mid_zero, HSS.out]))
      have HT : Hid (Turn lo hi w w2) := hidep (hT.trans (Turn.of_below hb2))
      have HG := hidep (pendZ_get D.s 0)
      clear hD hT hb2 hown hrng hn4 hle hc1 hc2 HC HS HP HK HE
      generalize hL : pendZ D.s 0 = L at *
      clear hL
      go_loopw [20] (fun i wr => ∃ k j : Nat, k ≤ L.length ∧ i = .int .i64 k ∧ Hid (j ≤ D.s.length) ∧ Hid (cntD D.s j = k) ∧ Hid (DiskAt wr lo hi (.pointer (some ⟨b, 0, none⟩)) { stepD D with s := mid D.s [] j }) ∧ Hid (Turn lo hi w wr) ∧ Hid (wr.ownsRow w1.heap.size 3 1 (.slice av L.length cv) L.length (intsC L))) (fun i _ => L.length - (RowKit.intOf i).toNat)
      case atStart => exact ⟨0, 0, Nat.zero_le _, rfl, hidep (Nat.zero_le _), hidep (by simp [cntD]), HD, HT, HO⟩
      case round =>
        obtain ⟨k, j, hk, rfl, HJ, HCJ, HR, HT2, HO2⟩ := hrel
        by_cases hlt : k < L.length
        · obtain ⟨i, hi2, hLi, hdi, hci⟩ := HG.out k hlt
          obtain ⟨b1, o1, rfl, hb1, hcell⟩ := (Rd.of_own HO2.out).at (by omega)
          have hx := hcell k _ (intsC_get L k hlt)
          rw [hLi, Nat.zero_add] at hx
          have HM : Hid (settleAt (mid D.s [] i) i 64 = mid D.s [] (i + 1)) := hidep (by rw [← mid_succ_dirty [] hi2 hdi, getD_nil])
          have HME : Hid (mid D.s [] j = mid D.s [] i) := hidep (mid_eq [] HJ.out (by omega) (by rw [HCJ.out, hci]))
          have HCI : Hid (cntD D.s (i + 1) = k + 1) := hidep (by rw [cntD_succ hi2, hci, if_pos hdi])
          have HC2 := hidep (settle_any (.pointer (some ⟨b, 0, none⟩)) { stepD D with s := mid D.s [] i } i 64 wr lo hi (HR.out.s_eq HME.out) (by show i < (mid D.s [] i).length; rw [mid_len]; exact hi2) (by show (atS (mid D.s [] i) i).dirty = true; rw [mid_at [] (Nat.le_refl i) hi2]; exact hdi))
          have HI := hidep hi2
          have hI2 : (i : Int) ≤ 4096 := by
            have := HR.out.ok.1.2.1
            rw [show ({ stepD D with s := mid D.s [] j } : Dk).s = mid D.s [] j from rfl, mid_len] at this
            omega
          clear hLi hdi hci hi2 hcell
          go_wp2_with (go_at_call 65; refine HC2.out.mono ?_; rintro e w3 ⟨rfl, hD3, hT3⟩)
          have HD3 := hidep (hD3.s_eq HM.out)
          have HT3 := hidep (HT2.out.trans hT3)
          have HO3 := hidep (own_turn HO2.out hT3 HB.out)
          clear hD3 hT3
          go_roundw
          case rel => exact ⟨k + 1, i + 1, by omega, by go_num, hidep (by have := HI.out; omega), HCI, HD3, HT3, HO3⟩
          case measure => simp [RowKit.intOf]; omega
        · go_wp2
          go_ret
          have e : mid D.s [] j = mountS D.s [] := cntD_all (by rw [HCJ.out, ← HCN.out]; omega) HJ.out []
          exact ⟨ret_val (congrArg _ HZ.out.1.symm), by rw [HZ.out.2]; exact HR.out.s_eq e, HT2.out⟩
theorem DiskIn.endMount {w : World} {lo hi b g mb wb c : Nat} {l : Int} {P W : DataW Unit} {D : Dk} (h : DiskIn w lo hi b g mb wb c l P W D) :
    DiskIn ((w.setCell ⟨b, 3, none⟩ (.bool false)).setCell ⟨b, 4, none⟩ (.int .i64 (-1))) lo hi b g mb wb c (-1) P W ⟨D.s, false, -1⟩ ∧ Turn lo hi w ((w.setCell ⟨b, 3, none⟩ (.bool false)).setCell ⟨b, 4, none⟩ (.int .i64 (-1))) :=
  ⟨(h.setOff false).setLeft (l' := -1) (left' := -1) ⟨by rfl, by omega⟩ (by omega), (h.turn 3 _).trans ((h.setOff false).turn 4 _)⟩
set_option maxHeartbeats 1000000 in
set_option maxRecDepth 100000 in
theorem mount_any (p pv : Value) (ps : List Int) (D : Dk) (w : World) (lo hi : Nat) (h : DiskAt w lo hi p D) (hp : ∀ X, Turn lo hi w X → IntsAt X pv ps) :
    Calls Tryz.prog 28 #[p, pv] w fun e w' => e = .returned (.tuple #[]) ∧ DiskAt w' lo hi p (mountD D ps) ∧ Turn lo hi w w' := by
  have HPK := hidep hp
  have hp0 := hp w (Turn.refl _ _ _)
  obtain ⟨pa, pc, rfl, hlc, hmc⟩ := hp0.1.form
  unfold maxLen at hmc
  clear hp hp0
  have H := hidep h
  have hpt : ∃ b, p = .pointer (some ⟨b, 0, none⟩) := by
    obtain ⟨b, g, mb, wb, c, l, P, W, hp, _⟩ := h
    exact ⟨b, hp⟩
  obtain ⟨b, rfl⟩ := hpt
  have HP := hidep (fun W hW => pending_any (.pointer (some ⟨b, 0, none⟩)) D W lo hi (hW : DiskAt W lo hi _ D))
  clear h
  go_enter Tryz.func28, Tryz.ntmps28
  go_wp2_with (go_at_call 64; refine (HP.out _ H.out).mono ?_; rintro e w2 ⟨v, rfl, hown, hb2⟩; obtain ⟨av, cv, rfl, hc1, hc2⟩ := (Rd.of_own hown).form)
  have hrng := H.out.rng
  have HB : Hid (hi ≤ w.heap.size) := hidep hrng.2
  have hle := pendZ_le D.s 0
  have hn4 := H.out.ok.1.2.1
  have hn2 : (pendZ D.s 0).length ≤ 4096 := by omega
  have HO := hidep hown
  have HCN := hidep (pendZ_cnt D.s)
  have HD : Hid (DiskAt w2 lo hi (.pointer (some ⟨b, 0, none⟩)) { D with s := mid D.s ps 0 }) := hidep ((H.out.below hb2).s_eq (s := D.s) (by rw [mid_zero]))
  have HT : Hid (Turn lo hi w w2) := hidep (Turn.of_below hb2)
  have HG := hidep (pendZ_get D.s 0)
  clear hb2 hown hrng hn4 hle hc1 hc2 HP
  generalize hL : pendZ D.s 0 = L at *
  clear hL
  go_loopw [10] (fun i wr => ∃ k j : Nat, k ≤ L.length ∧ i = .int .i64 k ∧ Hid (j ≤ D.s.length) ∧ Hid (cntD D.s j = k) ∧ Hid (DiskAt wr lo hi (.pointer (some ⟨b, 0, none⟩)) { D with s := mid D.s ps j }) ∧ Hid (Turn lo hi w wr) ∧ Hid (wr.ownsRow w.heap.size 3 1 (.slice av L.length cv) L.length (intsC L))) (fun i _ => L.length - (RowKit.intOf i).toNat)
  case atStart => exact ⟨0, 0, Nat.zero_le _, rfl, hidep (Nat.zero_le _), hidep (by simp [cntD]), HD, HT, HO⟩
  case round =>
    obtain ⟨k, j, hk, rfl, HJ, HCJ, HR, HT2, HO2⟩ := hrel
    by_cases hlt : k < L.length
    · obtain ⟨i, hi2, hLi, hdi, hci⟩ := HG.out k hlt
      obtain ⟨b1, o1, rfl, hb1, hcell⟩ := (Rd.of_own HO2.out).at (by omega)
      have hx := hcell k _ (intsC_get L k hlt)
      rw [hLi, Nat.zero_add] at hx
      have HM : Hid (settleAt (mid D.s ps i) i (ps.getD k 64) = mid D.s ps (i + 1)) := hidep (by rw [← mid_succ_dirty ps hi2 hdi, hci])
      have HME : Hid (mid D.s ps j = mid D.s ps i) := hidep (mid_eq ps HJ.out (by omega) (by rw [HCJ.out, hci]))
      have HCI : Hid (cntD D.s (i + 1) = k + 1) := hidep (by rw [cntD_succ hi2, hci, if_pos hdi])
      have HC2 := hidep (fun q : Int => settle_any (.pointer (some ⟨b, 0, none⟩)) { D with s := mid D.s ps i } i q wr lo hi (HR.out.s_eq HME.out) (by show i < (mid D.s ps i).length; rw [mid_len]; exact hi2) (by show (atS (mid D.s ps i) i).dirty = true; rw [mid_at ps (Nat.le_refl i) hi2]; exact hdi))
      have HI := hidep hi2
      have hI2 : (i : Int) ≤ 4096 := by
        have := HR.out.ok.1.2.1
        rw [show ({ D with s := mid D.s ps j } : Dk).s = mid D.s ps j from rfl, mid_len] at this
        omega
      clear hLi hdi hci hi2 hcell
      by_cases hkp : k < ps.length
      · have hg : ps.getD k 64 = ps[k] := by simp [hkp]
        have HGP := hidep hg
        clear hg
        obtain ⟨pb, po, rfl, _, hcellp⟩ := (HPK.out wr HT2.out).1.at (by omega)
        have hxp := hcellp k _ (intsC_get ps k hkp)
        clear hcellp
        generalize ps[k] = x at *
        go_wp2_with (go_at_call 65; refine (HC2.out _).mono ?_; rintro e w3 ⟨rfl, hD3, hT3⟩)
        have HD3 := hidep (hD3.s_eq (s' := mid D.s ps (i + 1)) (by rw [← HGP.out]; exact HM.out))
        have HT3 := hidep (HT2.out.trans hT3)
        have HO3 := hidep (own_turn HO2.out hT3 HB.out)
        clear hD3 hT3
        go_roundw
        case rel => exact ⟨k + 1, i + 1, by omega, by go_num, hidep (by have := HI.out; omega), HCI, HD3, HT3, HO3⟩
        case measure => simp [RowKit.intOf]; omega
      · have hg : ps.getD k 64 = 64 := by rw [List.getD_eq_getElem?_getD, List.getElem?_eq_none (by omega)]; rfl
        have HGP := hidep hg
        clear hg
        go_wp2_with (go_at_call 65; refine (HC2.out _).mono ?_; rintro e w3 ⟨rfl, hD3, hT3⟩)
        have HD3 := hidep (hD3.s_eq (s' := mid D.s ps (i + 1)) (by rw [← HGP.out]; exact HM.out))
        have HT3 := hidep (HT2.out.trans hT3)
        have HO3 := hidep (own_turn HO2.out hT3 HB.out)
        clear hD3 hT3
        go_roundw
        case rel => exact ⟨k + 1, i + 1, by omega, by go_num, hidep (by have := HI.out; omega), HCI, HD3, HT3, HO3⟩
        case measure => simp [RowKit.intOf]; omega
    · have e : mid D.s ps j = mountS D.s ps := cntD_all (by rw [HCJ.out, ← HCN.out]; omega) HJ.out ps
      obtain ⟨b1, g, mb, wb, c, l, P, W, hbb, h1⟩ := HR.out.s_eq e
      obtain rfl := ptr_inj hbb
      have c3 := h1.c3
      have c4 := h1.c4
      have f3 := h1.fr 3
      have f4 := h1.fr 4
      have HF := hidep h1.endMount
      clear h1 hbb e
      go_wp2
      all_goals go_end0
      all_goals exact ⟨rfl, ⟨b, g, mb, wb, c, -1, P, W, rfl, HF.out.1⟩, HT2.out.trans HF.out.2⟩
end Go.Proofs.YtipbkdlekanlmaaGreatDoor
/- Contracts of the program's disk: New, Clone. -/
namespace Go.Proofs.YtipbkdlekanlmaaGreatDoor
open Go.RowKit Go.Lab Go.Disk Go.Maps
theorem blk_info : (Tryz.prog.info? 86).map (fun i => (i.zero, i.size, i.bytes)) = some (some (.agg (cellsB zeros).toArray), 64, 64) := by kernel_rfl
theorem slBlocks : SlT Tryz.prog 74 86 (.agg (cellsB zeros).toArray) 64 64 := by
  refine ⟨by kernel_rfl, ?_, ?_, by decide⟩
  · exact blk_info
  · show (cellsB zeros).toArray.size = 64
    exact (cellsB_size zeros).trans zeros_size
def blkRow (n : Nat) : Array Value := madeCells (cellsB zeros).toArray (n * 64)
theorem blkRow_get (n j : Nat) (hj : j < n * 64) : (blkRow n)[j]? = some (.int .u8 0) := by
  unfold blkRow madeCells
  rw [Array.getElem?_map]
  have h1 : (Array.range (n * 64))[j]? = some j := by simp [hj]
  rw [h1]
  have hz : ∀ i : Nat, i < 64 → (cellsB zeros)[i]? = some (.int .u8 0) := fun i hi => by
    rw [cellsB_get zeros (by rw [zeros_size]; exact hi), zrow_nums, getD_rep]
  have hs : (cellsB zeros).toArray.size = 64 := (cellsB_size zeros).trans zeros_size
  simp only [Option.map_some, hs]
  have hm : j % 64 < 64 := Nat.mod_lt _ (by omega)
  have := hz (j % 64) hm
  have h2 : (cellsB zeros).toArray[j % 64]? = some (.int .u8 0) := by rw [List.getElem?_toArray]; exact this
  rw [getElem!_def, h2]
theorem blocksC_rep (n : Nat) : ∀ (j : Nat) (u : Value), (blocksC (List.replicate n secZ))[j]? = some u → j < n * 64 ∧ u = .int .u8 0 := by
  intro j u hu
  have hl : (blocksC (List.replicate n secZ)).length = n * 64 := by
    have := chunkm_len (f := fun x : Sec => cellsB x.text) (c := 64) (List.replicate n secZ) (fun a ha => by rw [(List.mem_replicate.1 ha).2, cellsB_len]; exact zeros_size)
    simpa [blocksC] using this
  have hj := (List.getElem?_eq_some_iff.1 hu).1
  rw [hl] at hj
  refine ⟨hj, ?_⟩
  have hm : u ∈ blocksC (List.replicate n secZ) := List.mem_of_getElem? hu
  unfold blocksC at hm
  obtain ⟨x, hx, hux⟩ := List.mem_flatMap.1 hm
  rw [(List.mem_replicate.1 hx).2] at hux
  unfold cellsB at hux
  rw [show nums secZ.text = List.replicate 64 0 from zrow_nums] at hux
  obtain ⟨y, hy, rfl⟩ := List.mem_map.1 hux
  rw [(List.mem_replicate.1 hy).2]
theorem mk_blocks (n : Nat) (h : n ≤ 4096) (W : World) : (Instr.makeSlice 74 (.int .i64 n) (.int .i64 n)).run Tryz.prog W = .ok (.slice (some ⟨W.heap.size, 0, none⟩) n n) (W.alloc (.cells (blkRow n) 86)) := by
  obtain ⟨i, hi, hz, hsize, hby⟩ := info_parts blk_info
  have := run_make (P := Tryz.prog) W 74 86 i _ (by kernel_rfl) hi hz .i64 .i64 (n : Int) (n : Int) (by omega) (by omega) (by rw [hby]; omega) (by omega)
  simp only [Int.toNat_natCast, hsize] at this
  exact this
theorem RowAt.alloc {w : World} {g : Nat} {t : TypeId} {cs : List Value} (h : RowAt w g t cs) (o : Obj) : RowAt (w.alloc o) g t cs := h.of_block (heap_alloc_old _ _ h.lt)
theorem pendView_new (n : Nat) : PendView (.map []) (List.replicate n secZ) := fun i z => by
  have : pendAt (List.replicate n secZ) i = none := by
    unfold pendAt
    rw [if_neg]
    rintro ⟨_, h2, h3⟩
    rw [atS_get h2] at h3
    simp [secZ] at h3
  rw [this]; rfl
theorem wornView_new (n : Nat) : WornView (.map []) (List.replicate n secZ) := fun i z => by
  have : wornAt (List.replicate n secZ) i = false := by
    unfold wornAt
    by_cases h2 : i.toNat < (List.replicate n secZ).length
    · rw [atS_get h2]
      simp [secZ]
    · simp only [h2, decide_false, Bool.false_and, Bool.and_false]
  rw [this]; rfl
theorem DiskIn.make {w w3 : World} {D : Dk} {g mb wb c : Nat} {l : Int} {P W : DataW Unit} (hb : Below w.heap.size w w3) (hg : w.heap.size ≤ g) (hm : w.heap.size ≤ mb) (hw : w.heap.size ≤ wb) (hne : mb ≠ wb) (hc : D.s.length ≤ c ∧ c ≤ maxLen)
    (hr : RowAt w3 g 86 (blocksC D.s)) (hp : pendMap w3 mb (size P) P) (hwm : wornMap w3 wb (size W) W) (hpv : PendView P D.s) (hwv : WornView W D.s) (hl : Lft l D.left) (hok : D.Ok) :
    DiskIn (w3.alloc (.cells #[.slice (some ⟨g, 0, none⟩) D.s.length c, .map (some mb), .map (some wb), .bool D.off, .int .i64 l] 77)) w.heap.size (w3.heap.size + 1) w3.heap.size g mb wb c l P W D := by
  have hz := hb.size
  have h1 := hr.lt
  have h2 := hp.lt
  have h3 := hwm.lt
  exact ⟨by omega, by omega, by omega, by omega, by simp, hne, hc, RowAt.new w3 _ _, hr.alloc _, hp.alloc _, hwm.alloc _, hpv, hwv, hl, hok⟩
set_option maxHeartbeats 1000000 in
theorem new_bad (n : Int) (w : World) (h : n < 1 ∨ 4096 < n) : Calls Tryz.prog 8 #[.int .i64 n] w fun e w' => e = .returned (.tuple #[.pointer none, .int .i64 1]) ∧ w = w' := by
  rcases h with h | h
  · go_enter Tryz.func8, Tryz.ntmps8
    go_wp2
    go_ret2
    exact ⟨rfl, rfl⟩
  · have h1 : 1 ≤ n := by omega
    go_enter Tryz.func8, Tryz.ntmps8
    go_wp2
    go_ret2
    exact ⟨rfl, rfl⟩
set_option maxHeartbeats 1000000 in
set_option maxRecDepth 100000 in
theorem new_any (n : Nat) (w : World) (h1 : 1 ≤ n) (h2 : n ≤ 4096) : Calls Tryz.prog 8 #[.int .i64 n] w fun e w' => ∃ p, e = .returned (.tuple #[p, .int .i64 0]) ∧ DiskAt w' w.heap.size w'.heap.size p (newD n) ∧ Below w.heap.size w w' := by
  have hmk := mk_blocks n h2
  have hmm := @run_makeMap Tryz.prog
  have hI1 : 1 ≤ (n : Int) := by omega
  have hI2 : (n : Int) ≤ 4096 := by omega
  go_enter Tryz.func8, Tryz.ntmps8
  go_wp2
  go_ret2
  have hb1 : Below w.heap.size w (((w.alloc (.cells (blkRow n) 86)).alloc (.map #[] 0)).alloc (.map #[] 0)) := (((Below.refl _ _).alloc (Nat.le_refl _) _).alloc (by simp) _).alloc (by simp; omega) _
  have hrow : RowAt (w.alloc (.cells (blkRow n) 86)) w.heap.size 86 (blocksC (newD n).s) := ⟨blkRow n, heap_alloc_new w _, fun j u hu => by
    obtain ⟨hj, rfl⟩ := blocksC_rep n j u hu
    exact blkRow_get n j hj⟩
  have hp := World.ownsMap_made (H := Unit) (w.alloc (.cells (blkRow n) 86)) Tryz.prog 3 blockElem
  have hw := World.ownsMap_made (H := Unit) ((w.alloc (.cells (blkRow n) 86)).alloc (.map #[] 0)) Tryz.prog 3 (plainElem Tryz.prog 4)
  rw [World.size_alloc] at hp
  rw [World.size_alloc, World.size_alloc] at hw
  have hm := DiskIn.make (D := newD n) (l := -1) (c := n) hb1 (Nat.le_refl _) (by omega) (by omega) (by omega) (by simp only [newD, List.length_replicate]; exact ⟨Nat.le_refl _, by unfold maxLen; omega⟩) ((hrow.alloc _).alloc _) (hp.alloc _) hw (pendView_new n) (wornView_new n) ⟨rfl, by omega⟩ (newD_ok h1 h2)
  rw [show (newD n).s.length = n by simp [newD], show (newD n).off = false from rfl] at hm
  exact ⟨_, rfl, ⟨_, w.heap.size, w.heap.size + 1, w.heap.size + 1 + 1, n, -1, .map [], .map [], rfl, by simpa using hm⟩, hb1.alloc hb1.size _⟩
end Go.Proofs.YtipbkdlekanlmaaGreatDoor
