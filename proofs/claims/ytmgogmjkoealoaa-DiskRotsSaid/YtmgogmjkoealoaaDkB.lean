/- Words: a block as a variable of its own. Contract of the program's disk: Read. -/
import Derived.Test.YtmgogmjkoealoaaDkP
import Derived.Test.YtmgogmjkoealoaaDkZ
import Derived.Deep.WholeRow
namespace Go.Proofs.Ytmgogmjkoealoaa
open Go.RowKit Go.Lab Go.Disk Go.Maps
section
variable {α : Type} {f : α → List Value} {c : Nat}
theorem chunkm_len : ∀ l : List α, (∀ a ∈ l, (f a).length = c) → (l.flatMap f).length = l.length * c
  | [], _ => by simp
  | a :: l, hf => by rw [List.flatMap_cons, List.length_append, hf a (by simp), chunkm_len l (fun b hb => hf b (by simp [hb])), List.length_cons, Nat.succ_mul]; omega
theorem chunkm_get : ∀ (l : List α) (_ : ∀ a ∈ l, (f a).length = c) {k j : Nat} (hk : k < l.length) (_ : j < c), (l.flatMap f)[k * c + j]? = (f l[k])[j]?
  | a :: l, hf, 0, j, _, hj => by
    rw [List.flatMap_cons, Nat.zero_mul, Nat.zero_add, List.getElem?_append_left (by rw [hf a (by simp)]; exact hj)]
    rfl
  | a :: l, hf, k + 1, j, hk, hj => by
    have ha := hf a (by simp)
    have e : (k + 1) * c + j = (f a).length + (k * c + j) := by rw [ha, Nat.succ_mul]; omega
    rw [List.flatMap_cons, e, List.getElem?_append_right (by omega), Nat.add_sub_cancel_left, chunkm_get l (fun b hb => hf b (by simp [hb])) (by simpa using hk) hj]
    rfl
theorem chunkm_spl : ∀ (l : List α) (_ : ∀ a ∈ l, (f a).length = c) (k j : Nat) (vs : List Value) (x : α) (hk : k < l.length), j + vs.length ≤ c → f x = spl (f l[k]) j vs → spl (l.flatMap f) (k * c + j) vs = (l.set k x).flatMap f
  | a :: l, hf, 0, j, vs, x, _, hj, hx => by
    simp only [List.getElem_cons_zero] at hx
    rw [List.flatMap_cons, Nat.zero_mul, Nat.zero_add, spl_append_low _ _ _ _ (by rw [hf a (by simp)]; exact hj), List.set_cons_zero, List.flatMap_cons, hx]
  | a :: l, hf, k + 1, j, vs, x, hk, hj, hx => by
    have e : (k + 1) * c + j = (f a).length + (k * c + j) := by rw [hf a (by simp), Nat.succ_mul]; omega
    rw [List.flatMap_cons, e, spl_append_high, List.set_cons_succ, List.flatMap_cons, chunkm_spl l (fun b hb => hf b (by simp [hb])) k j vs x (by simpa using hk) hj (by simpa using hx)]
end
theorem blocks_each {S : List Sec} (h : SOk S) : ∀ x ∈ S, (cellsB x.text).length = 64 := fun x hx => by rw [cellsB_len]; exact (h.2.2 x hx).1
theorem blocksC_len {S : List Sec} (h : SOk S) : (blocksC S).length = S.length * 64 := chunkm_len S (blocks_each h)
theorem blocksC_get {S : List Sec} (h : SOk S) {k j : Nat} (hk : k < S.length) (hj : j < 64) : (blocksC S)[k * 64 + j]? = some (.int .u8 ((nums (atS S k).text).getD j 0)) := by
  unfold blocksC
  rw [chunkm_get (f := fun x : Sec => cellsB x.text) S (blocks_each h) hk hj, atS_get hk]
  exact cellsB_get _ (by rw [(h.2.2 _ (List.getElem_mem hk)).1]; exact hj)
/-- A variable of a type that takes a row, made anew. -/
theorem wpList_alloc_row {P : Program} {t : TypeId} {Z : Array Value} (hz : ∀ w, (zeroValue t).run P w = .ok (.agg Z) w) (w : World) {ops : Array Oper} {rest : List Oper} {o : Oper} {a : Act} {Q : Exit → Act → World → Prop} (hgd : o.guard = none) (ho : o.op = .alloc t)
    (h : wpList P ops Q rest (a.put o.dst (.pointer (some ⟨w.heap.size, 0, none⟩))) (w.alloc (.cells Z t))) : wpList P ops Q (o :: rest) a w := by
  refine wpList_plain hgd fun K hK => ?_
  unfold Oper.wp execOp
  simp [ho, Instr.alloc, hz, newVar, newRow, Value.cells, Result.andThen]
  exact hK _ _ h
/-- A whole row into the block that was made last. -/
theorem wpList_store_last {P : Program} {t : TypeId} {c c' : Array Value} (w : World) (hi : (P.info? t).map (·.size) = some c'.size) (hsz : c.size = c'.size) (h1 : c'.all (·.oneCell') = true) {ops : Array Oper} {rest : List Oper} {o : Oper} {a : Act} {Q : Exit → Act → World → Prop} (hgd : o.guard = none) (x y : Operand) (ho : o.op = .store t x y)
    (hx : a.eval x = .pointer (some ⟨w.heap.size, 0, none⟩)) (hy : a.eval y = .agg c') (h : wpList P ops Q rest (a.put o.dst undef) (w.alloc (.cells c' t))) : wpList P ops Q (o :: rest) a (w.alloc (.cells c t)) := by
  refine wpList_plain hgd fun K hK => ?_
  unfold Oper.wp execOp
  simp only [ho, hx, hy, Sem.run_bind, Sem.run_pure, run_storeAt_new w t c c' hi hsz h1, Result.andThen_ok]
  exact hK _ _ h
theorem info_block : (Try.prog.info? 74).map (·.size) = some 64 := by kernel_rfl
theorem cellsB_all (s : ByteArray) : (cellsB s).toArray.all (·.oneCell') = true := all_oneCell_toArray (cellsB_one s)
theorem cellsB_size (s : ByteArray) : (cellsB s).toArray.size = s.size := by rw [List.size_toArray, cellsB_len]
theorem bytes_of_cells {w : World} {g : Nat} {s : ByteArray} {cs : Array Value} {t : TypeId} (hb : w.heap[g]? = some (.cells cs t (0, 0))) (hc : cs = (cellsB s).toArray) : BytesIn w g (nums s) := by
  subst hc
  refine ⟨lt_of_block hb, fun j hj => ?_, fun j _ => by simp [World.frozen?, hb]⟩
  rw [nums_len] at hj
  simp only [World.cell?, hb]
  simpa using cellsB_get s hj
theorem cv_block (w : World) (s : ByteArray) (hs : s.size = 64) : (convert 72 9 (.slice (some ⟨w.heap.size, 0, none⟩) 64 64)).run Try.prog (w.alloc (.cells (cellsB s).toArray 74)) = .ok (.string s) (w.alloc (.cells (cellsB s).toArray 74)) := by
  have := run_str_of (bytes_of_cells (heap_alloc_new w (.cells (cellsB s).toArray 74)) rfl) 64 64 (by rw [nums_len]; exact hs)
  rw [str_nums] at this
  exact this
/-- 'string(d.blocks[k][:])' -/
theorem cv_sector {w : World} {g : Nat} {S : List Sec} (hr : RowAt w g 74 (blocksC S)) (hok : SOk S) {k : Nat} (hk : k < S.length) (c : Nat) : (convert 72 9 (.slice (some ⟨g, k * 64, none⟩) 64 c)).run Try.prog w = .ok (.string (atS S k).text) w := by
  have hs := (hok.at hk).1
  have := run_convert_bytes_arg w 72 5 Try.underlying72 Try.underlying5 g (k * 64) 64 c (nums (atS S k).text) (by rw [nums_len]; exact hs) (fun i hi => by
    exact hr.cell (blocksC_get hok hk hi)) 9 Try.underlying9
  rw [str_nums] at this
  exact this
set_option maxHeartbeats 1000000 in
set_option maxRecDepth 100000 in
theorem read_any (p : Value) (D : Dk) (i : Int) (w : World) (lo hi : Nat) (h : DiskAt w lo hi p D) (hi64 : -9223372036854775808 ≤ i ∧ i ≤ 9223372036854775807) :
    Calls Try.prog 16 #[p, .int .i64 i] w fun e w' => e = .returned (.tuple #[.string (readZ D i).1, .int .i64 (readZ D i).2]) ∧ Below w.heap.size w w' := by
  have HC := hidep (fun W hW => check_any p D i W lo hi (hW : DiskAt W lo hi p D))
  obtain ⟨b, g, mb, wb, c, l, P, W, rfl, h⟩ := h
  have c0 := h.c0
  have c1 := h.c1
  have H : Hid (DiskAt w lo hi (.pointer (some ⟨b, 0, none⟩)) D) := hidep ⟨b, g, mb, wb, c, l, P, W, rfl, h⟩
  cases hoff : D.off with
  | true =>
    have HZ := hidep (readZ_off i hoff)
    have HK := hidep (checkZ_off i hoff)
    clear hoff h
    go_enter Try.func16, Try.ntmps16
    go_wp2_with (go_at_call 46; refine (HC.out _ H.out).mono ?_; rintro e w' ⟨rfl, rfl⟩; rw [HK.out])
    go_ret2
    exact ⟨ret_two HZ.out.symm, Below.refl _ _⟩
  | false =>
    cases hin : D.isIn i with
    | false =>
      have HZ := hidep (readZ_out hoff hin)
      have HK := hidep (checkZ_out hoff hin)
      clear hoff hin h
      go_enter Try.func16, Try.ntmps16
      go_wp2_with (go_at_call 46; refine (HC.out _ H.out).mono ?_; rintro e w' ⟨rfl, rfl⟩; rw [HK.out])
      go_ret2
      exact ⟨ret_two HZ.out.symm, Below.refl _ _⟩
    | true =>
      have HK := hidep (checkZ_in hoff hin)
      obtain ⟨h0, hk⟩ := isIn_lt hin
      obtain ⟨k, rfl⟩ : ∃ k : Nat, i = (k : Int) := ⟨i.toNat, by omega⟩
      rw [Int.toNat_natCast] at hk
      clear hin h0
      have hlook := look_pend h.pend h.pv (i64ok_mk hi64)
      have hps := pendOr_size h.ok.1 (k : Int)
      have hpa : (pendAt D.s (k : Int)).isSome = (atS D.s k).dirty := by
        unfold pendAt
        rw [Int.toNat_natCast]
        cases hd : (atS D.s k).dirty <;> simp [hk]
      have hn4 := h.ok.1.2.1
      have hbl := h.top.lt
      have hgl := h.row.lt
      rw [hpa] at hlook
      have hzb := zero_block
      cases hd : (atS D.s k).dirty with
      | true =>
        have HZ := hidep (readZ_dirty hoff hk hd)
        rw [hd] at hlook
        have hpo : pendOr D.s (k : Int) = (atS D.s k).next := by
          unfold pendOr pendAt
          rw [Int.toNat_natCast, if_pos ⟨by omega, hk, hd⟩]; rfl
        rw [hpo] at hlook hps
        have hcv := cv_block w (atS D.s k).next hps
        have hall := cellsB_all (atS D.s k).next
        have hcs := cellsB_size (atS D.s k).next
        rw [hps] at hcs
        clear hoff h hpo hpa hd hps
        have hzs : (cellsB zeros).toArray.size = 64 := (cellsB_size zeros).trans zeros_size
        generalize (cellsB (atS D.s k).next).toArray = C at *
        generalize (cellsB zeros).toArray = Z at *
        have hst := run_storeCells_new (P := Try.prog) w 74 Z C (by rw [hcs]; exact info_block) (by rw [hcs, hzs]) hall
        clear hzs hall
        go_enter Try.func16, Try.ntmps16
        go_upto_region 4 with (go_at_call 46; refine (HC.out _ H.out).mono ?_; rintro e w' ⟨rfl, rfl⟩; rw [HK.out])
        go_wp2_with (first
          | (refine wpList_alloc_row (o := ⟨some 7, _, _, _, _, _⟩) hzb _ rfl rfl ?_)
          | fail)
        go_ret2
        exact ⟨ret_two HZ.out.symm, (Below.refl _ _).alloc (Nat.le_refl _) _⟩
      | false =>
        have HZ := hidep (readZ_clean hoff hk hd)
        rw [hd] at hlook
        have hall := cellsB_all (pendOr D.s (k : Int))
        have hcs := cellsB_size (pendOr D.s (k : Int))
        rw [hps] at hcs
        have hcv := cv_sector (w := w.alloc (.cells (cellsB (pendOr D.s (k : Int))).toArray 74)) (h.row.of_block (heap_alloc_old _ _ hgl)) h.ok.1 hk 64
        have hzs : (cellsB zeros).toArray.size = 64 := (cellsB_size zeros).trans zeros_size
        clear hoff h hpa hd hps
        generalize (cellsB (pendOr D.s (k : Int))).toArray = C at *
        generalize (cellsB zeros).toArray = Z at *
        have hst := run_storeCells_new (P := Try.prog) w 74 Z C (by rw [hcs]; exact info_block) (by rw [hcs, hzs]) hall
        clear hzs hall
        generalize D.s.length = n at *
        go_enter Try.func16, Try.ntmps16
        go_upto_region 4 with (go_at_call 46; refine (HC.out _ H.out).mono ?_; rintro e w' ⟨rfl, rfl⟩; rw [HK.out])
        go_wp2_with (first
          | (refine wpList_alloc_row (o := ⟨some 7, _, _, _, _, _⟩) hzb _ rfl rfl ?_)
          | fail)
        go_ret2
        exact ⟨ret_two HZ.out.symm, (Below.refl _ _).alloc (Nat.le_refl _) _⟩
end Go.Proofs.Ytmgogmjkoealoaa
