/- Contract of the program's disk: Write. -/
import Derived.Test.YtipbkdlekanlmaaDoorJs15
import Derived.Deep.OwnRows
namespace Go.Proofs.YtipbkdlekanlmaaDoor
open Go.RowKit Go.Lab Go.Disk Go.Maps
theorem map_set_same {S : List Sec} {k : Nat} {x : Sec} (hk : k < S.length) (ht : x.text = (atS S k).text) : (S.set k x).map (·.text) = S.map (·.text) := by
  rw [List.map_set, ht, atS_get hk]
  have h2 : k < (S.map (·.text)).length := by simpa using hk
  have : S[k].text = (S.map (·.text))[k] := by simp
  rw [this, List.set_getElem_self]
theorem blocksC_map (S : List Sec) : blocksC S = (S.map (·.text)).flatMap cellsB := by
  unfold blocksC
  rw [List.flatMap_map]
theorem blocksC_same {S : List Sec} {k : Nat} {x : Sec} (hk : k < S.length) (ht : x.text = (atS S k).text) : blocksC (S.set k x) = blocksC S := by rw [blocksC_map, map_set_same hk ht, blocksC_map]
section
variable {lo hi b g mb wb c : Nat} {l : Int} {P W : DataW Unit} {D : Dk} {w : World}
/-- One sector turns into x, the text stays; the maps turn as they must. -/
theorem DiskIn.setMaps (h : DiskIn w lo hi b g mb wb c l P W D) {w' : World} {k : Nat} {x : Sec} {P' W' : DataW Unit} (hk : k < D.s.length) (hx : x.Ok) (ht : x.text = (atS D.s k).text) (hz : w.heap.size ≤ w'.heap.size)
    (e1 : w'.heap[b]? = w.heap[b]?) (e2 : w'.heap[g]? = w.heap[g]?) (hp : pendMap w' mb (size P') P') (hw : wornMap w' wb (size W') W') (hpv : PendView P' (D.s.set k x)) (hwv : WornView W' (D.s.set k x)) :
    DiskIn w' lo hi b g mb wb c l P' W' { D with s := D.s.set k x } :=
  ⟨h.hb, h.hg, h.hm, h.hw, Nat.le_trans h.hi hz, h.ne, by simpa using h.cap, by simpa using h.top.of_block e1, by show RowAt w' g 98 (blocksC (D.s.set k x)); rw [blocksC_same hk ht]; exact h.row.of_block e2, hp, hw, hpv, hwv, h.lft, ⟨h.ok.1.set k hx, h.ok.2⟩⟩
end
theorem keep_of_grown {w w' : World} {mb : Nat} (hg : w.grownBy w' (some mb)) {k : Nat} (hk : k < w.heap.size) (hne : k ≠ mb) : w'.heap[k]? = w.heap[k]? := hg.block k hk (fun e => hne (by injection e))
theorem DiskIn.putPend {lo hi b g mb wb c : Nat} {l : Int} {P W : DataW Unit} {D : Dk} {w w' : World} (h : DiskIn w lo hi b g mb wb c l P W D) {k : Nat} (hk : k < D.s.length) {s : ByteArray} (hs : s.size = 64) {m : Nat}
    (hm : w'.ownsMap Tryd.prog 3 blockElem mb m (P.put (kI (k : Int)) (.lit (.string s.data.toList)))) (hg : w.grownBy w' (some mb)) :
    DiskIn w' lo hi b g mb wb c l (P.put (kI (k : Int)) (.lit (.string s.data.toList))) W { D with s := writeS D.s k s } ∧ Turn lo hi w w' := by
  have n1 := ownsMap_ne h.pend h.top
  have n2 := ownsMap_ne h.pend h.row
  have n3 := h.ne
  refine ⟨h.setMaps hk ⟨(h.ok.1.at hk).1, fun _ => hs⟩ rfl hg.size (keep_of_grown hg h.top.lt (Ne.symm n1)) (keep_of_grown hg h.row.lt (Ne.symm n2)) (ownsMap_size hm) (ownsMap_block h.worn (keep_of_grown hg h.worn.lt (Ne.symm n3))) (h.pv.put (x := { atS D.s k with next := s, dirty := true }) h.pend.isMap hk rfl) (h.wv.same hk rfl), Turn.grown hg (fun q e => by injection e with e; subst e; exact h.hm)⟩
theorem block_range {w : World} {g : Nat} {s : ByteArray} (h : BytesIn w g (nums s)) : w.rangeAt g 0 (cellsB s) := fun j v hv => by
  have hj : j < s.size := by rw [← cellsB_len]; exact (List.getElem?_eq_some_iff.1 hv).1
  rw [cellsB_get s hj] at hv
  rw [Nat.zero_add, h.cell j (by rw [nums_len]; exact hj)]
  exact hv
theorem load_block {w : World} {g : Nat} {s : ByteArray} (h : BytesIn w g (nums s)) (hs : s.size = 64) : (Instr.loadAt 98 (.pointer (some ⟨g, 0, none⟩))).run Tryd.prog w = .ok (.agg (cellsB s).toArray) w :=
  run_loadAt_mid w g 0 98 (cellsB s) _ (block_range h) Tryd.underlying98 rfl (by rw [cellsB_len, hs]; exact info_block)
theorem size_block (w : World) : (sizeOf 98).run Tryd.prog w = .ok 64 w := by kernel_rfl
theorem run_arrayAt_ok {P : Program} {arr e : TypeId} {n : Nat} (hu : P.underlying arr = some (.array n e)) (a : Option Addr) {len cap : Nat} (h : n ≤ len) (w : World) : (Instr.arrayAt arr (.slice a len cap)).run P w = .ok (.pointer a) w := by
  have : ¬ len < n := by omega
  simp [Instr.arrayAt, run_underlying hu, this, Result.andThen]
theorem load_cells64 {P : Program} {w : World} {g : Nat} {s : ByteArray} (h : BytesIn w g (nums s)) (hs : s.size = 64) : (loadCellsFrom ⟨g, 0, none⟩ 0 64 #[]).run P w = .ok (cellsB s).toArray w := by
  have := run_loadCells_list (P := P) w ⟨g, 0, none⟩ (cellsB s) (fun j v hv => by rw [Addr.add_mid]; exact block_range h j v hv)
  rw [cellsB_len, hs] at this
  exact this
set_option maxHeartbeats 2000000 in
set_option maxRecDepth 100000 in
theorem write_any (p : Value) (D : Dk) (i : Int) (s : ByteArray) (w : World) (lo hi : Nat) (h : DiskAt w lo hi p D) (hmax : s.size ≤ maxLen) (hi64 : -9223372036854775808 ≤ i ∧ i ≤ 9223372036854775807) :
    Calls Tryd.prog 53 #[p, .int .i64 i, .string s] w fun e w' => e = .returned (.int .i64 (writeE D i s)) ∧ DiskAt w' lo hi p (writeD D i s) ∧ Turn lo hi w w' := by
  have HC := hidep (fun W hW => check_any p D i W lo hi (hW : DiskAt W lo hi p D))
  have HS := hidep (fun W hW => step_any p D W lo hi (hW : DiskAt W lo hi p D))
  unfold maxLen at hmax
  obtain ⟨b, g, mb, wb, c, l, P, W, rfl, h⟩ := h
  have H : Hid (DiskAt w lo hi (.pointer (some ⟨b, 0, none⟩)) D) := hidep ⟨b, g, mb, wb, c, l, P, W, rfl, h⟩
  clear h
  cases hoff : D.off with
  | true =>
    have HZ := hidep (writeE_off i s hoff)
    have HK := hidep (checkZ_off i hoff)
    clear hoff
    go_enter Tryd.func53, Tryd.ntmps53
    go_wp2_with (go_at_call 51; refine (HC.out _ H.out).mono ?_; rintro e w' ⟨rfl, rfl⟩; rw [HK.out])
    go_ret
    exact ⟨ret_val (congrArg _ HZ.out.1.symm), by rw [HZ.out.2]; exact H.out, Turn.refl _ _ _⟩
  | false =>
    cases hin : D.isIn i with
    | false =>
      have HZ := hidep (writeE_out s hoff hin)
      have HK := hidep (checkZ_out hoff hin)
      clear hoff hin
      go_enter Tryd.func53, Tryd.ntmps53
      go_wp2_with (go_at_call 51; refine (HC.out _ H.out).mono ?_; rintro e w' ⟨rfl, rfl⟩; rw [HK.out])
      go_ret
      exact ⟨ret_val (congrArg _ HZ.out.1.symm), by rw [HZ.out.2]; exact H.out, Turn.refl _ _ _⟩
    | true =>
      have HK := hidep (checkZ_in hoff hin)
      by_cases hs : s.size = 64
      · by_cases hl : D.left = 0
        · have HZ := hidep (writeE_down hoff hin hs hl)
          have HE := hidep (stepE_0 hl)
          clear hoff hin hl
          go_enter Tryd.func53, Tryd.ntmps53
          go_wp2_with (first
            | (go_at_call 51; refine (HC.out _ H.out).mono ?_; rintro e w' ⟨rfl, rfl⟩; rw [HK.out])
            | (go_at_call 67; refine (HS.out _ H.out).mono ?_; rintro e w' ⟨rfl, hD, hT⟩; rw [HE.out]))
          go_ret
          exact ⟨ret_val (congrArg _ HZ.out.1.symm), by rw [HZ.out.2]; exact hD, hT⟩
        · obtain ⟨h0, hk⟩ := isIn_lt hin
          obtain ⟨k, rfl⟩ : ∃ k : Nat, i = (k : Int) := ⟨i.toNat, by omega⟩
          rw [Int.toNat_natCast] at hk
          have HZ := hidep (writeE_ok hoff hk hs hl)
          have HE := hidep (stepE_1 hl)
          have HK1 : Hid (k < (stepD D).s.length) := hidep (by rw [stepD_s]; exact hk)
          have HSZ := hidep hs
          have hsle : s.size ≤ 64 := Nat.le_of_eq hs
          have hsge : 64 ≤ s.size := Nat.le_of_eq hs.symm
          clear hs
          clear hoff hin hl h0
          go_enter Tryd.func53, Tryd.ntmps53
          go_upto_region 9 with (first
            | (go_at_call 51; refine (HC.out _ H.out).mono ?_; rintro e w' ⟨rfl, rfl⟩; rw [HK.out])
            | (go_at_call 67; refine (HS.out _ H.out).mono ?_; rintro e w1 ⟨rfl, hD, hT⟩; rw [HE.out]))
          obtain ⟨b1, g1, mb, wb, c, l, P, W, hbb, h1⟩ := hD
          obtain rfl := ptr_inj hbb
          have c1 := h1.c1
          have hbl := h1.top.lt
          have H1 := hidep h1
          have HT := hidep hT
          have hmbl := h1.pend.lt
          have hps := pend_size h1.pend h1.pv
          have hn4 := h1.ok.1.2.1
          have hown := hidep h1.pend
          have hps2 : size P ≤ 4096 := by omega
          obtain ⟨cc, w2, hrun, hcc, hb2, hn2, hz2⟩ := run_bytes_new (P := Tryd.prog) Tryd.underlying9 Tryd.underlying36 Tryd.underlying5 w1.drew s
          have hrun2 : (convert 9 36 (.string s)).run Tryd.prog w1.drew = .ok (.slice (some ⟨w1.heap.size, 0, none⟩) s.size cc) w2 := hrun
          have hn3 : BytesIn w2 w1.heap.size (nums s) := hn2
          obtain ⟨N, hN⟩ : ∃ N, N = 64 := ⟨_, rfl⟩
          have hsz74 : ∀ w, (sizeOf 98).run Tryd.prog w = .ok N w := by intro w; rw [hN]; exact size_block w
          have hld : (loadCellsFrom ⟨w1.heap.size, 0, none⟩ 0 N #[]).run Tryd.prog w2 = .ok (cellsB s).toArray w2 := by rw [hN]; exact load_cells64 hn3 HSZ.out
          clear hN
          have hb2 : Below w1.heap.size w1 w2 := ⟨hb2.os, hb2.tape, hb2.output, hb2.size, hb2.block⟩
          have hT12 : Turn hi hi w1 w2 := Turn.of_below hb2
          have harr := run_arrayAt_ok (P := Tryd.prog) Tryd.underlying98 (some ⟨w1.heap.size, 0, none⟩) (len := s.size) (cap := cc) hsge w2
          have h2 := h1.keep hT12 (.inl (Nat.le_refl _))
          have c1b := h2.c1
          obtain ⟨w3, hr3, ho3, hg3⟩ := h2.pend.update (P := Tryd.prog) keyedInt Tryd.underlying69 (by unfold maxLen; omega) (keyI (i64ok_mk hi64)) (blockElem_mk HSZ.out)
          have hF := h2.putPend HK1.out HSZ.out ho3 hg3
          have c1c := hF.1.c1
          have HF := hidep hF
          have HT2 : Hid (Turn lo hi w1 w2) := hidep (Turn.of_below hb2)
          clear hF h1 h2 hT hbb HC HS HK HE hk hps hn4 hown hps2 hT12 hn2 hn3 hz2 hrun ho3 hg3 hb2 hmbl hbl hi64
          generalize cellsB s = C at *
          go_region
          go_wp2
          go_ret
          refine ⟨ret_val (congrArg _ HZ.out.1.symm), ?_, HT.out.trans (HT2.out.trans HF.out.2)⟩
          rw [HZ.out.2]
          have e := stepD_s D
          exact ⟨b, g1, mb, wb, c, l, _, W, rfl, by rw [← e]; exact HF.out.1⟩
      · have HZ := hidep (writeE_size (i := i) hoff hs)
        clear hoff hin
        have hs1 : s.size < 64 ∨ 64 < s.size := by omega
        clear hs
        rcases hs1 with hs1 | hs1
        all_goals
          go_enter Tryd.func53, Tryd.ntmps53
          go_wp2_with (go_at_call 51; refine (HC.out _ H.out).mono ?_; rintro e w' ⟨rfl, rfl⟩; rw [HK.out])
          go_ret
          exact ⟨ret_val (congrArg _ HZ.out.1.symm), by rw [HZ.out.2]; exact H.out, Turn.refl _ _ _⟩
end Go.Proofs.YtipbkdlekanlmaaDoor
/- Contracts of the program's disk: Wear, Image. -/
namespace Go.Proofs.YtipbkdlekanlmaaDoor
open Go.RowKit Go.Lab Go.Disk Go.Maps
theorem DiskIn.putWorn {lo hi b g mb wb c : Nat} {l : Int} {P W : DataW Unit} {D : Dk} {w w' : World} (h : DiskIn w lo hi b g mb wb c l P W D) {k : Nat} (hk : k < D.s.length) {m : Nat}
    (hm : w'.ownsMap Tryd.prog 3 (plainElem Tryd.prog 4) wb m (W.put (kI (k : Int)) (.lit (.bool true)))) (hg : w.grownBy w' (some wb)) :
    DiskIn w' lo hi b g mb wb c l P (W.put (kI (k : Int)) (.lit (.bool true))) { D with s := wearS D.s k } ∧ Turn lo hi w w' := by
  have n1 := ownsMap_ne h.worn h.top
  have n2 := ownsMap_ne h.worn h.row
  have n3 := h.ne
  refine ⟨h.setMaps hk ⟨(h.ok.1.at hk).1, (h.ok.1.at hk).2⟩ rfl hg.size (keep_of_grown hg h.top.lt (Ne.symm n1)) (keep_of_grown hg h.row.lt (Ne.symm n2)) (ownsMap_block h.pend (keep_of_grown hg h.pend.lt n3)) (ownsMap_size hm) (h.pv.same hk rfl rfl) (h.wv.put (x := { atS D.s k with worn := true }) h.worn.isMap hk rfl), Turn.grown hg (fun q e => by injection e with e; subst e; exact h.hw)⟩
set_option maxHeartbeats 1000000 in
set_option maxRecDepth 100000 in
theorem wear_any (p : Value) (D : Dk) (i : Int) (w : World) (lo hi : Nat) (h : DiskAt w lo hi p D) (hi64 : -9223372036854775808 ≤ i ∧ i ≤ 9223372036854775807) :
    Calls Tryd.prog 14 #[p, .int .i64 i] w fun e w' => e = .returned (.int .i64 (if D.isIn i = true then 0 else 1)) ∧ DiskAt w' lo hi p (wearD D i) ∧ Turn lo hi w w' := by
  obtain ⟨b, g, mb, wb, c, l, P, W, rfl, h⟩ := h
  have H : Hid (DiskAt w lo hi (.pointer (some ⟨b, 0, none⟩)) D) := hidep ⟨b, g, mb, wb, c, l, P, W, rfl, h⟩
  have c0 := h.c0
  have c2 := h.c2
  have hmx := h.ok.1.2.1
  cases hin : D.isIn i with
  | false =>
    have HW : Hid (wearD D i = D) := hidep (by unfold wearD; rw [if_neg (by rw [hin]; simp)])
    have hc := isIn_out hin
    clear hin h
    generalize D.s.length = n at *
    rcases hc with h1 | ⟨h1, h2⟩
    all_goals
      go_enter Tryd.func14, Tryd.ntmps14
      go_wp2
      go_ret
      exact ⟨rfl, by rw [HW.out]; exact H.out, Turn.refl _ _ _⟩
  | true =>
    obtain ⟨h0, hk⟩ := isIn_lt hin
    obtain ⟨k, rfl⟩ : ∃ k : Nat, i = (k : Int) := ⟨i.toNat, by omega⟩
    rw [Int.toNat_natCast] at hk
    have HW : Hid (wearD D (k : Int) = { D with s := wearS D.s k }) := hidep (by unfold wearD; rw [if_pos hin]; rfl)
    have hws := worn_size h.worn h.wv
    obtain ⟨w3, hr3, ho3, hg3⟩ := h.worn.update (P := Tryd.prog) keyedInt Tryd.underlying70 (by unfold maxLen; omega) (keyI (i64ok_mk hi64)) (plainElem_bool Tryd.underlying4 true)
    have HF := hidep (h.putWorn hk ho3 hg3)
    have hI0 : 0 ≤ (k : Int) := by omega
    have hI1 : (k : Int) < (D.s.length : Int) := by omega
    clear hin h h0 hws ho3 hg3 hi64
    generalize D.s.length = n at *
    go_enter Tryd.func14, Tryd.ntmps14
    go_wp2
    go_ret
    exact ⟨rfl, by rw [HW.out]; exact ⟨b, g, mb, wb, c, l, P, _, rfl, HF.out.1⟩, HF.out.2⟩
theorem imageZ_len (D : Dk) : (imageZ D).length = D.s.length := by simp [imageZ]
theorem mk_strs (n : Nat) (h : n ≤ 4096) (W : World) : (Instr.makeSlice 23 (.int .i64 n) (.int .i64 n)).run Tryd.prog W = .ok (.slice (some ⟨W.heap.size, 0, none⟩) n n) (W.alloc (.cells (madeCells #[.string ByteArray.empty] n) 9)) :=
  run_make_row' 23 9 (.string ByteArray.empty) 16 Tryd.underlying23 (by kernel_rfl) rfl .i64 .i64 n (by omega) (by omega) W
theorem strsC_len (L : List ByteArray) : (strsC L).length = L.length := by simp [strsC]
/-- the image in the making: the first j texts, the rest empty -/
def imgRow (L : List ByteArray) (j n : Nat) : List Value := strsC (L.take j) ++ List.replicate (n - j) (.string ByteArray.empty)
theorem imgRow_set {L : List ByteArray} {j n : Nat} (hj : j < L.length) (hn : L.length = n) : (imgRow L j n).set j (.string L[j]) = imgRow L (j + 1) n := by
  unfold imgRow
  have hl : (strsC (L.take j)).length = j := by simp [strsC]; omega
  rw [List.set_append_right _ _ (by omega), hl, Nat.sub_self, List.take_succ_eq_append_getElem hj]
  have e : n - j = (n - (j + 1)) + 1 := by omega
  rw [e, List.replicate_succ, List.set_cons_zero]
  unfold strsC
  rw [List.map_append, List.append_assoc]
  rfl
theorem imgRow_len (L : List ByteArray) (j n : Nat) (hn : L.length = n) (hj : j ≤ n) : (imgRow L j n).length = n := by
  simp [imgRow, strsC]; omega
theorem image_strs {w : World} {v : Nat} {D : Dk} (h : RowAt w v 9 (strsC (imageZ D))) (hok : D.Ok) : StrsAt w (.slice (some ⟨v, 0, none⟩) D.s.length D.s.length) (imageZ D) := by
  have hm := hok.1.2.1
  have hrd := (h.rd (n := D.s.length) (k := 1) (c := D.s.length) (by rw [strsC_len, imageZ_len]; omega) (Nat.le_refl _) (by unfold maxLen; omega)).mono (T' := fun _ => True) (fun _ _ => trivial)
  unfold StrsAt
  rw [imageZ_len]
  exact hrd
end Go.Proofs.YtipbkdlekanlmaaDoor
/- Contract of the program's disk: Rot. -/
namespace Go.Proofs.YtipbkdlekanlmaaDoor
open Go.RowKit Go.Lab Go.Disk Go.Maps
theorem nums_str : ∀ {xs : List Int}, (∀ x ∈ xs, 0 ≤ x ∧ x < 256) → nums (strOfNums xs) = xs
  | [], _ => rfl
  | x :: xs, h => by
    have ih := nums_str (xs := xs) (fun y hy => h y (by simp [hy]))
    have hx := h x (by simp)
    unfold nums strOfNums at ih ⊢
    simp only [List.map_cons] at ih ⊢
    rw [ih]
    congr 1
    simp
    omega
theorem rotN_lt {x k : Nat} (hx : x < 256) (hk : k < 8) : rotN x k < 256 := by
  unfold rotN
  exact Nat.xor_lt_two_pow (n := 8) hx (Nat.pow_lt_pow_right (by omega) hk)
theorem cellsB_rot {s : ByteArray} {m : Nat} : cellsB (rotB s m) = (cellsB s).set (m / 8) (.int .u8 ((rotN (s.data.toList.getD (m / 8) 0).toNat (m % 8) : Nat) : Int)) := by
  have hb : rotN (s.data.toList.getD (m / 8) 0).toNat (m % 8) < 256 := rotN_lt (UInt8.toNat_lt _) (Nat.mod_lt _ (by omega))
  unfold cellsB
  rw [← rotB_nums (s := s) (m := m) rfl, nums_str, List.map_set]
  intro x hx
  rcases List.mem_or_eq_of_mem_set hx with h1 | rfl
  · exact nums_rng s x h1
  · omega
theorem DiskIn.setRow {lo hi b g mb wb c : Nat} {l : Int} {P W : DataW Unit} {D : Dk} {w w' : World} (h : DiskIn w lo hi b g mb wb c l P W D) {k : Nat} {x : Sec} (hk : k < D.s.length) (hx : x.Ok) (hd : x.dirty = (atS D.s k).dirty) (hn : x.next = (atS D.s k).next) (hw : x.worn = (atS D.s k).worn)
    (hT : Turn g (g + 1) w w') (hrow : RowAt w' g 98 (blocksC (D.s.set k x))) : DiskIn w' lo hi b g mb wb c l P W { D with s := D.s.set k x } ∧ Turn lo hi w w' := by
  have hz := h.hi
  have hg := h.hg
  have hm := h.hm
  have hww := h.hw
  have hbb := h.hb
  have n1 := row_ne h.row h.top (by decide)
  have n2 := ownsMap_ne h.pend h.row
  have n3 := ownsMap_ne h.worn h.row
  refine ⟨⟨h.hb, h.hg, h.hm, h.hw, Nat.le_trans hz hT.size, h.ne, by simpa using h.cap, by simpa using h.top.of_turn hT (by omega), hrow, ownsMap_block h.pend (hT.block _ (by omega) (by omega)), ownsMap_block h.worn (hT.block _ (by omega) (by omega)), h.pv.same hk hd hn, h.wv.same hk hw, h.lft, ⟨h.ok.1.set k hx, h.ok.2⟩⟩, ⟨hT.os, hT.tape, hT.output, hT.size, fun j hj hn => hT.block j hj (by omega)⟩⟩
theorem blocks_rot {S : List Sec} (hok : SOk S) {k m : Nat} (hk : k < S.length) (hm : m / 8 < 64) : (blocksC S).set (k * 64 + m / 8) (.int .u8 ((rotN ((atS S k).text.data.toList.getD (m / 8) 0).toNat (m % 8) : Nat) : Int)) = blocksC (rotS S k m) :=
  chunkm_spl (f := fun x : Sec => cellsB x.text) S (blocks_each hok) k (m / 8) [.int .u8 ((rotN ((atS S k).text.data.toList.getD (m / 8) 0).toNat (m % 8) : Nat) : Int)] { atS S k with text := rotB (atS S k).text m } hk (by simp; omega) (by rw [← atS_get hk]; exact cellsB_rot)
set_option maxHeartbeats 1000000 in
set_option maxRecDepth 100000 in
theorem rot_any (p : Value) (D : Dk) (i bit : Int) (w : World) (lo hi : Nat) (h : DiskAt w lo hi p D) :
    Calls Tryd.prog 24 #[p, .int .i64 i, .int .i64 bit] w fun e w' => e = .returned (.int .i64 (if rotOk D i bit = true then 0 else 1)) ∧ DiskAt w' lo hi p (rotD D i bit) ∧ Turn lo hi w w' := by
  obtain ⟨b, g, mb, wb, c, l, P, W, rfl, h⟩ := h
  have H : Hid (DiskAt w lo hi (.pointer (some ⟨b, 0, none⟩)) D) := hidep ⟨b, g, mb, wb, c, l, P, W, rfl, h⟩
  have c0 := h.c0
  have hmx := h.ok.1.2.1
  cases hr : rotOk D i bit with
  | false =>
    have HW : Hid (rotD D i bit = D) := hidep (by unfold rotD; rw [if_neg (by rw [hr]; simp)])
    have hc := rotOk_cases hr
    clear hr h
    have hc2 : (i < 0) ∨ (0 ≤ i ∧ (D.s.length : Int) ≤ i) ∨ (0 ≤ i ∧ i < (D.s.length : Int) ∧ bit < 0) ∨ (0 ≤ i ∧ i < (D.s.length : Int) ∧ 0 ≤ bit ∧ 511 < bit) := by
      rcases hc with h1 | ⟨h1, h2⟩ | ⟨h1, h2, h3⟩
      · rcases isIn_out h1 with h1 | h1
        · exact .inl h1
        · exact .inr (.inl h1)
      · have := isIn_lt h1
        exact .inr (.inr (.inl ⟨this.1, by omega, h2⟩))
      · have := isIn_lt h1
        exact .inr (.inr (.inr ⟨this.1, by omega, h2, h3⟩))
    clear hc
    generalize D.s.length = n at *
    rcases hc2 with h1 | ⟨h1, h2⟩ | ⟨h1, h2, h3⟩ | ⟨h1, h2, h3, h4⟩
    all_goals
      go_enter Tryd.func24, Tryd.ntmps24
      go_wp2
      go_ret
      exact ⟨rfl, by rw [HW.out]; exact H.out, Turn.refl _ _ _⟩
  | true =>
    have HW : Hid (rotD D i bit = { D with s := rotS D.s i.toNat bit.toNat }) := hidep (by unfold rotD; rw [if_pos hr])
    obtain ⟨hin, h1, h2⟩ := rotOk_true hr
    obtain ⟨h0, hk⟩ := isIn_lt hin
    obtain ⟨k, rfl⟩ : ∃ k : Nat, i = (k : Int) := ⟨i.toNat, by omega⟩
    obtain ⟨m, rfl⟩ : ∃ m : Nat, bit = (m : Int) := ⟨bit.toNat, by omega⟩
    rw [Int.toNat_natCast] at hk HW
    rw [Int.toNat_natCast] at HW
    have hm8 : m / 8 < 64 := by omega
    have d0 := h.row.cell (blocksC_get h.ok.1 hk hm8)
    have f0 := h.row.free (k * 64 + m / 8)
    rw [nums_getD] at d0
    have hxb := UInt8.toNat_lt ((atS D.s k).text.data.toList.getD (m / 8) 0)
    have HB : Hid (∀ y : Int, y = ((rotN ((atS D.s k).text.data.toList.getD (m / 8) 0).toNat (m % 8) : Nat) : Int) → DiskIn (w.setCell ⟨g, k * 64 + m / 8, none⟩ (.int .u8 y)) lo hi b g mb wb c l P W { D with s := rotS D.s k m } ∧ Turn lo hi w (w.setCell ⟨g, k * 64 + m / 8, none⟩ (.int .u8 y))) := hidep (fun y hy => by
      subst hy
      have hrow := h.row.setCell (o := k * 64 + m / 8) (by rw [blocksC_len h.ok.1]; omega) (.int .u8 ((rotN ((atS D.s k).text.data.toList.getD (m / 8) 0).toNat (m % 8) : Nat) : Int))
      rw [blocks_rot h.ok.1 hk hm8] at hrow
      exact h.setRow (x := { atS D.s k with text := rotB (atS D.s k).text m }) hk ⟨by rw [rotB_size]; exact (h.ok.1.at hk).1, (h.ok.1.at hk).2⟩ rfl rfl rfl (Turn.setCell (a := ⟨g, k * 64 + m / 8, none⟩) (Nat.le_refl g) (Nat.lt_succ_self g) _) hrow)
    clear hin h0 hr h
    generalize hxx : ((atS D.s k).text.data.toList.getD (m / 8) 0).toNat = xb at *
    clear hxx
    have hI0 : 0 ≤ (k : Int) := by omega
    have hI1 : (k : Int) < (D.s.length : Int) := by omega
    have hI2 : (m : Int) / 8 < 64 := by omega
    generalize D.s.length = n at *
    go_enter Tryd.func24, Tryd.ntmps24
    go_wp2
    go_region
    go_wp2
    go_ret
    have hfin := HB.out _ (xor_pow xb m (by simpa using hxb))
    refine ⟨rfl, ?_, ?_⟩
    · rw [HW.out]
      exact ⟨b, g, mb, wb, c, l, P, W, rfl, hfin.1.keep (lo' := hi) (hi' := hi) (Turn.drewN 1) (.inl (Nat.le_refl _))⟩
    · exact hfin.2.trans (Turn.drewN 1)
end Go.Proofs.YtipbkdlekanlmaaDoor
/- Equality of two blocks (arrays of bytes) as the model runs it. -/
namespace Go.Proofs.YtipbkdlekanlmaaDoor
open Go.RowKit Go.Lab Go.Disk
section
variable {P : Program} (w : World)
theorem run_part_byte {e : TypeId} (he : P.underlying e = some (.int .u8)) (xs : List Int) (j : Nat) (hj : j < xs.length) : (part e (xs.map (Value.int .u8)).toArray j).run P w = .ok (.int .u8 (xs.getD j 0)) w := by
  unfold part
  have hagg : (isAgg e).run P w = .ok false w := by
    unfold isAgg
    rw [Sem.run_bind, run_underlying he w]
    simp
  have hget : (xs.map (Value.int .u8)).toArray[j]? = some (.int .u8 (xs.getD j 0)) := by
    simp [hj]
  simp only [Sem.run_bind, hagg, Result.andThen_ok, Bool.false_eq_true, if_false, hget, Sem.run_pure]
/-- the loop over the elements, from i on -/
def eqBytes (d : Nat) (e : TypeId) (n : Nat) (xs ys : Array Value) : List Nat → Sem Bool
  | [] => pure true
  | i :: is => do
    let a ← part e xs (i * n)
    let b ← part e ys (i * n)
    let r ← Op.equalIn d e a b
    if (!r) = true then pure false else eqBytes d e n xs ys is
theorem run_equalIn_arr (d n : Nat) (t e : TypeId) (k : Nat) (xs ys : Array Value) (ht : P.underlying t = some (.array k e)) (hs : ∀ w, (sizeOf e).run P w = .ok n w) :
    (Op.equalIn (d + 1) t (.agg xs) (.agg ys)).run P w = (eqBytes d e n xs ys (List.range' 0 k)).run P w := by
  simp only [Op.equalIn, Sem.run_bind, run_underlying ht, Result.andThen_ok, hs]
  rw [Std.Legacy.Range.forIn_eq_forIn_range']
  simp only [Std.Legacy.Range.size, Nat.sub_zero, Nat.add_sub_cancel, Nat.div_one]
  generalize List.range' 0 k = is
  clear ht
  induction is generalizing w with
  | nil => simp [eqBytes]
  | cons i is ih =>
    simp only [List.forIn_cons, eqBytes, Sem.run_bind, Sem.run_ite]
    generalize (part e xs (i * n)).run P w = r1
    cases r1 with
    | ok a w1 =>
      simp only [Result.andThen_ok]
      generalize (part e ys (i * n)).run P w1 = r2
      cases r2 with
      | ok b w2 =>
        simp only [Result.andThen_ok]
        generalize (Op.equalIn d e a b).run P w2 = r3
        cases r3 with
        | ok r w3 =>
          cases r
          · simp only [Result.andThen_ok, Bool.not_false, if_true, Sem.run_pure]
          · simp only [Result.andThen_ok, Bool.not_true, Bool.false_eq_true, if_false, Sem.run_pure]
            exact ih w3
        | halt x w3 => simp [Result.andThen]
      | halt x w2 => simp [Result.andThen]
    | halt x w1 => simp [Result.andThen]
theorem run_eqBytes {e : TypeId} (he : P.underlying e = some (.int .u8)) (d : Nat) (xs ys : List Int) (hl : xs.length = ys.length) : ∀ (m i : Nat), i + m = xs.length →
    (eqBytes (d + 1) e 1 (xs.map (Value.int .u8)).toArray (ys.map (Value.int .u8)).toArray (List.range' i m)).run P w = .ok (decide (xs.drop i = ys.drop i)) w
  | 0, i, h => by
    have h1 : xs.drop i = [] := List.drop_eq_nil_of_le (by omega)
    have h2 : ys.drop i = [] := List.drop_eq_nil_of_le (by omega)
    simp [List.range', eqBytes, h1, h2]
  | m + 1, i, h => by
    have hi : i < xs.length := by omega
    have hi2 : i < ys.length := by omega
    rw [List.range'_succ, eqBytes]
    simp only [Nat.mul_one, Sem.run_bind, run_part_byte w he xs i hi, run_part_byte w he ys i hi2, Result.andThen_ok, run_equalIn_int w d e .u8 .u8 _ _ he, Sem.run_ite, Sem.run_pure]
    rw [run_eqBytes he d xs ys hl m (i + 1) (by omega), List.drop_eq_getElem_cons (l := xs) hi, List.drop_eq_getElem_cons (l := ys) hi2]
    have e1 : xs.getD i 0 = xs[i] := by simp [hi]
    have e2 : ys.getD i 0 = ys[i] := by simp [hi2]
    rw [e1, e2]
    generalize xs[i] = a
    generalize ys[i] = b
    by_cases hq : a = b
    · subst hq; simp
    · have : (a == b) = false := by simpa using hq
      simp [this, hq]
end
theorem size_byte (w : World) : (sizeOf 5).run Tryd.prog w = .ok 1 w := by kernel_rfl
theorem neq_block (w : World) (s t : ByteArray) (hs : s.size = 64) (ht : t.size = 64) : (binOp .neq 98 (.agg (cellsB s).toArray) (.agg (cellsB t).toArray)).run Tryd.prog w = .ok (.bool (!decide (s = t))) w := by
  rw [run_neq_struct, show (10000 : Nat) = (9998 + 1) + 1 from rfl, run_equalIn_arr w (9998 + 1) 1 98 5 64 _ _ Tryd.underlying98 size_byte]
  unfold cellsB
  rw [run_eqBytes w Tryd.underlying5 9998 (nums s) (nums t) (by rw [nums_len, nums_len, hs, ht]) 64 0 (by rw [nums_len, hs])]
  simp only [Result.andThen_ok, List.drop_zero]
  congr 3
  by_cases h : s = t
  · subst h; simp
  · have : ¬ nums s = nums t := fun e => h (nums_inj e)
    rw [decide_eq_false h, decide_eq_false this]
theorem guard_block (op : BinOp) (x y : Operand) (xs ys : Array Value) (w : World) : (eqGuard op 98 x y (.agg xs) (.agg ys)).run Tryd.prog w = .ok () w :=
  run_eqGuard_agg w op 98 x y xs ys (by kernel_rfl)
end Go.Proofs.YtipbkdlekanlmaaDoor
/- Contract of the reference's disk: settle. -/
namespace Go.Proofs.YtipbkdlekanlmaaDoor
open Go.RowKit Go.Lab Go.Disk Go.Maps
theorem clampP_cases (p : Int) : (p < 0 ∧ clampP p = 0) ∨ (0 ≤ p ∧ p < 64 ∧ (clampP p : Int) = p) ∨ (64 ≤ p ∧ clampP p = 64) := by unfold clampP; omega
theorem settleAt_at {S : List Sec} {k m : Nat} {p : Int} {x1 x2 : ByteArray} {x4 : Bool} (hx : atS S k = ⟨x1, x2, true, x4⟩) (hm : clampP p = m) (h1 : x1.size ≤ 64) (h2 : 64 ≤ x1.size) :
    settleAt S k p = S.set k ⟨if x4 = true then x1 else x2.extract 0 m ++ x1.extract m x1.size, ByteArray.empty, false, x4⟩ := by
  unfold settleAt settleS
  rw [hx, hm]
  have e : x1.size = 64 := by omega
  rw [e]
end Go.Proofs.YtipbkdlekanlmaaDoor
/- Contract of the program's disk: settle. -/
namespace Go.Proofs.YtipbkdlekanlmaaDoor
open Go.RowKit Go.Lab Go.Disk Go.Maps
theorem pendOr_dirty {S : List Sec} {k : Nat} (hk : k < S.length) (hd : (atS S k).dirty = true) : pendOr S (k : Int) = (atS S k).next := by
  unfold pendOr pendAt
  rw [Int.toNat_natCast, if_pos ⟨by omega, hk, hd⟩]; rfl
theorem wornAt_nat {S : List Sec} {k : Nat} (hk : k < S.length) : wornAt S (k : Int) = (atS S k).worn := by
  unfold wornAt
  rw [Int.toNat_natCast]
  simp [hk]
theorem step_copy_cells {P : Program} (w : World) {ops : Array Oper} {o : Oper} {a : Act} {K : Act → World → Prop} {Q : Exit → Act → World → Prop} {E : Prop} (hgd : o.guard = none) (d s : Operand) (dT sT elem : TypeId)
    (ho : o.op = .call { callee := .builtin .copy, args := #[d, s], argTypes := #[dT, sT] }) (hu : P.underlying dT = some (.slice elem)) (hs : (P.info? elem).map (·.size) = some 1)
    (b off dLen dCap : Nat) (ad : Addr) (sLen sCap : Nat) (hd : a.eval d = .slice (some ⟨b, off, none⟩) dLen dCap) (hx : a.eval s = .slice (some ad) sLen sCap) (cs : List Value) (hn : cs.length = Nat.min sLen dLen)
    (hsrc : ∀ j v, cs[j]? = some v → w.cell? (ad.add j) = some v) (hc : ∀ j, j < cs.length → (w.cell? ⟨b, off + j, none⟩).isSome = true) (hf : ∀ j, j < cs.length → w.frozen? ⟨b, off + j, none⟩ = false) (h1 : ∀ v ∈ cs, v.oneCell' = true)
    (h : K (a.put o.dst (goInt cs.length)) (w.setCells b off cs)) : if Region.wanted o (yielded ops a.tmps) = true then Oper.wp P o a w K Q else E := by
  have hw : Region.wanted o (yielded ops a.tmps) = true := by simp [Region.wanted, hgd]
  rw [if_pos hw]
  have hrun := run_copy_cells (P := P) w dT sT o.type elem b off dLen dCap ad sLen sCap cs hu hs hn hsrc hc hf h1
  unfold Oper.wp
  simp [execOp, ho, resolve, invoke, builtin, hd, hx, hrun, Result.andThen]
  exact h
theorem load_cells_any {P : Program} {w : World} {g o : Nat} {cs : List Value} (h : w.rangeAt g o cs) {n : Nat} (hn : cs.length = n) : (loadCellsFrom ⟨g, o, none⟩ 0 n #[]).run P w = .ok cs.toArray w := by
  have := run_loadCells_list (P := P) w ⟨g, o, none⟩ cs (fun j v hv => by rw [Addr.add_mid]; exact h j v hv)
  rw [hn] at this
  exact this
theorem block_at {w : World} {g : Nat} {S : List Sec} (h : RowAt w g 98 (blocksC S)) (hok : SOk S) {k : Nat} (hk : k < S.length) : w.rangeAt g (k * 64) (cellsB (atS S k).text) := fun j v hv => by
  have hs := (hok.at hk).1
  have hj : j < 64 := by rw [← hs, ← cellsB_len]; exact (List.getElem?_eq_some_iff.1 hv).1
  rw [cellsB_get _ (by rw [hs]; exact hj)] at hv
  rw [h.cell (blocksC_get hok hk hj)]
  exact hv
theorem wpQuiet_run {P : Program} {ops : Array Oper} {C : World → Prop} {Q : Act → Prop} {rest : List Oper} {o : Oper} {a : Act} (hw : Region.wanted o (yielded ops a.tmps) = true) (v : Value)
    (h : ∀ w, C w → (execOp a.eval o).run P w = .ok (.value v) w) (hk : wpQuiet P ops C Q rest (a.put o.dst v)) : wpQuiet P ops C Q (o :: rest) a :=
  BigFrame.wpQuiet_want hw fun _ hK => ⟨v, fun w hC => by unfold Oper.quietAt; rw [h w hC]; exact ⟨rfl, rfl⟩, hK _ hk⟩
theorem run_lookup_op {P : Program} {o : Oper} {a : Act} {t : TypeId} {m x : Operand} {c : Bool} {mv key v : Value} {w : World} (ho : o.op = .lookup t m x c) (hm : a.eval m = mv) (hx : a.eval x = key) (h : (Instr.lookup t mv key c).run P w = .ok v w) : (execOp a.eval o).run P w = .ok (.value v) w := by
  unfold execOp
  simp only [ho, hm, hx, h, Sem.run_bind, Sem.run_pure, Result.andThen_ok]
theorem run_load_op {P : Program} {o : Oper} {a : Act} {t : TypeId} {x : Operand} {pv v : Value} {w : World} (ho : o.op = .load t x) (hx : a.eval x = pv) (h : (Instr.loadAt t pv).run P w = .ok v w) : (execOp a.eval o).run P w = .ok (.value v) w := by
  unfold execOp
  simp only [ho, hx, h, Sem.run_bind, Sem.run_pure, Result.andThen_ok]
theorem run_neq_op {P : Program} {o : Oper} {a : Act} {t u : TypeId} {x y : Operand} {xv yv v : Value} {w : World} (ho : o.op = .binOp .neq t x y u) (hx : a.eval x = xv) (hy : a.eval y = yv) (hg : (eqGuard .neq t x y xv yv).run P w = .ok () w) (h : (binOp .neq t xv yv).run P w = .ok v w) : (execOp a.eval o).run P w = .ok (.value v) w := by
  unfold execOp
  simp only [ho, hx, hy, hg, h, Sem.run_bind, Sem.run_pure, Result.andThen_ok]
theorem run_sliceAt_hi {P : Program} {arr e : TypeId} {n size : Nat} (hu : P.underlying arr = some (.array n e)) (hs : ∀ w, (sizeOf e).run P w = .ok size w) (g o : Nat) {m : Nat} (hm : m ≤ n) (w : World) :
    (Instr.sliceAt arr (.pointer (some ⟨g, o, none⟩)) none (some (.int .i64 (m : Int))) none).run P w = .ok (.slice (some ⟨g, o, none⟩) m n) w := by
  have h2 : (0 : Int) ≤ (m : Int) := by omega
  simp [Instr.sliceAt, run_underlying hu, Instr.sureAddr, Instr.sliceBounds, Instr.sliceBound, asIntOf, hs, h2, hm, Addr.add_mid, Result.andThen]
theorem take_src {w : World} {g : Nat} {cs : List Value} (h : w.rangeAt g 0 cs) {m : Nat} : ∀ j v, (cs.take m)[j]? = some v → w.cell? ((⟨g, 0, none⟩ : Addr).add j) = some v := fun j v hv => by
  rw [Addr.add_mid]
  rw [List.getElem?_take] at hv
  split at hv
  · exact h j v hv
  · cases hv
/-- what is left of a sector whose pending content is struck -/
def struck (x : Sec) : Sec := { text := x.text, next := ByteArray.empty, dirty := false, worn := x.worn }
theorem DiskIn.delPend {lo hi b g mb wb c : Nat} {l : Int} {P W : DataW Unit} {D : Dk} {w w' : World} (h : DiskIn w lo hi b g mb wb c l P W D) {k : Nat} (hk : k < D.s.length) {m : Nat}
    (hm : w'.ownsMap Tryd.prog 3 blockElem mb m (P.del (kI (k : Int)))) (hg : w.grownBy w' (some mb)) :
    DiskIn w' lo hi b g mb wb c l (P.del (kI (k : Int))) W { D with s := D.s.set k (struck (atS D.s k)) } ∧ Turn lo hi w w' := by
  have n1 := ownsMap_ne h.pend h.top
  have n2 := ownsMap_ne h.pend h.row
  have n3 := h.ne
  refine ⟨h.setMaps hk ⟨(h.ok.1.at hk).1, fun e => by cases e⟩ rfl hg.size (keep_of_grown hg h.top.lt (Ne.symm n1)) (keep_of_grown hg h.row.lt (Ne.symm n2)) (ownsMap_size hm) (ownsMap_block h.worn (keep_of_grown hg h.worn.lt (Ne.symm n3))) (h.pv.del hk rfl) (h.wv.same hk rfl), Turn.grown hg (fun q e => by injection e with e; subst e; exact h.hm)⟩
theorem settle_keeps {S : List Sec} {k : Nat} {p : Int} (h : (atS S k).worn = true ∨ ((atS S k).next = (atS S k).text ∧ (atS S k).text.size = 64)) : settleAt S k p = S.set k (struck (atS S k)) := by
  unfold settleAt settleS struck
  congr 1
  rcases h with h | ⟨h, hs⟩
  · rw [if_pos h]
  · split
    · rfl
    · rw [h]
      have hc := clampP_le p
      have e : (atS S k).text.extract 0 (clampP p) ++ (atS S k).text.extract (clampP p) 64 = (atS S k).text := by
        refine nums_inj ?_
        rw [nums_append, nums_extract, nums_extract, Nat.sub_zero, List.drop_zero]
        rw [List.take_of_length_le (l := (nums (atS S k).text).drop (clampP p)) (by rw [List.length_drop, nums_len, hs]; omega), List.take_append_drop]
      rw [e]
theorem cellsB_settle {a b : ByteArray} {m : Nat} (ha : a.size = 64) (hb : b.size = 64) (hm : m ≤ 64) : cellsB (a.extract 0 m ++ b.extract m 64) = spl (cellsB b) 0 ((cellsB a).take m) := by
  rw [spl_eq _ _ _ (by rw [List.length_take, cellsB_len, cellsB_len]; omega)]
  unfold cellsB
  rw [nums_append, nums_extract, nums_extract, Nat.sub_zero, List.drop_zero, List.take_of_length_le (l := (nums b).drop m) (by rw [List.length_drop, nums_len, hb]; omega)]
  rw [List.map_append, List.map_take, List.map_drop, List.take_zero, List.nil_append, Nat.zero_add, List.length_take, List.length_map, nums_len, ha, Nat.min_eq_left hm]
theorem DiskIn.copied {lo hi b g mb wb c : Nat} {l : Int} {P W : DataW Unit} {D : Dk} {w : World} {k m : Nat} {p : Int} (h : DiskIn w lo hi b g mb wb c l P W { D with s := D.s.set k (struck (atS D.s k)) }) (hk : k < D.s.length)
    (hn : (atS D.s k).next.size = 64) (ht : (atS D.s k).text.size = 64) (hw : (atS D.s k).worn = false) (hm : clampP p = m) :
    DiskIn (w.setCells g (k * 64) ((cellsB (atS D.s k).next).take m)) lo hi b g mb wb c l P W { D with s := settleAt D.s k p } ∧ Turn lo hi w (w.setCells g (k * 64) ((cellsB (atS D.s k).next).take m)) := by
  have hm64 : m ≤ 64 := by rw [← hm]; exact clampP_le p
  have hk2 : k < (D.s.set k (struck (atS D.s k))).length := by simpa using hk
  have hat : atS (D.s.set k (struck (atS D.s k))) k = struck (atS D.s k) := by rw [atS_set hk, if_pos rfl]
  have hlen : ((cellsB (atS D.s k).next).take m).length = m := by rw [List.length_take, cellsB_len, hn]; omega
  have hbl := blocksC_len h.ok.1
  have hrow := RowAt.setCells ((cellsB (atS D.s k).next).take m) _ (k * 64) w h.row (by rw [hbl, hlen]; simp only [List.length_set]; omega)
  have hx : settleS (atS D.s k) (clampP p) = { text := (atS D.s k).next.extract 0 m ++ (atS D.s k).text.extract m 64, next := ByteArray.empty, dirty := false, worn := false } := by
    unfold settleS
    rw [if_neg (by rw [hw]; simp), hm, hw]
  have hspl := chunkm_spl (f := fun x : Sec => cellsB x.text) (D.s.set k (struck (atS D.s k))) (blocks_each h.ok.1) k 0 ((cellsB (atS D.s k).next).take m) (settleS (atS D.s k) (clampP p)) hk2 (by rw [hlen]; omega) (by
    rw [← atS_get hk2, hat, hx]
    exact cellsB_settle hn ht hm64)
  rw [Nat.add_zero, List.set_set] at hspl
  have hrow2 : RowAt (w.setCells g (k * 64) ((cellsB (atS D.s k).next).take m)) g 98 (blocksC ((D.s.set k (struck (atS D.s k))).set k (settleS (atS D.s k) (clampP p)))) := by
    rw [List.set_set]
    have e : spl (blocksC (D.s.set k (struck (atS D.s k)))) (k * 64) ((cellsB (atS D.s k).next).take m) = blocksC (D.s.set k (settleS (atS D.s k) (clampP p))) := hspl
    rw [← e]
    exact hrow
  have hfin := h.setRow (x := settleS (atS D.s k) (clampP p)) hk2 ⟨by rw [hx]; show (_ ++ _ : ByteArray).size = 64; rw [ByteArray.size_append, extract_size, extract_size]; omega, fun e => by rw [hx] at e; cases e⟩ (by rw [hat]; rfl) (by rw [hat]; rfl) (by rw [hat]; rfl) (Turn.setCells (Nat.le_refl g) (Nat.lt_succ_self g) _ _ _) hrow2
  rw [show ({ D with s := D.s.set k (struck (atS D.s k)) } : Dk).s = D.s.set k (struck (atS D.s k)) from rfl, List.set_set] at hfin
  exact hfin
set_option maxHeartbeats 2000000 in
set_option maxRecDepth 100000 in
theorem settle_any (q : Value) (D : Dk) (k : Nat) (p : Int) (w : World) (lo hi : Nat) (h : DiskAt w lo hi q D) (hk : k < D.s.length) (hd : (atS D.s k).dirty = true) :
    Calls Tryd.prog 69 #[q, .int .i64 k, .int .i64 p] w fun e w' => e = .returned (.tuple #[]) ∧ DiskAt w' lo hi q { D with s := settleAt D.s k p } ∧ Turn lo hi w w' := by
  obtain ⟨b, g, mb, wb, c, l, P, W, rfl, h⟩ := h
  have c1 := h.c1
  have hi64 : -9223372036854775808 ≤ (k : Int) ∧ (k : Int) ≤ 9223372036854775807 := by have := h.ok.1.2.1; omega
  have hl0 := look_pend0 h.pend h.pv (i64ok_mk hi64)
  have hpo := pendOr_dirty hk hd
  have hps := pendOr_size h.ok.1 (k : Int)
  rw [hpo] at hl0 hps
  have hzb := zero_block
  have hzs : (cellsB zeros).toArray.size = 64 := (cellsB_size zeros).trans zeros_size
  have hcs := cellsB_size (atS D.s k).next
  rw [hps] at hcs
  have hall := cellsB_all (atS D.s k).next
  have HPS := hidep hps
  have HK := hidep hk
  have hbl := h.top.lt
  have hst0 : ∀ Z : Array Value, Z.size = 64 → (storeCells ⟨w.heap.size, 0, none⟩ (cellsB (atS D.s k).next).toArray.toList 0).run Tryd.prog (w.alloc (.cells Z 98)) = .ok () (w.alloc (.cells (cellsB (atS D.s k).next).toArray 98)) := fun Z hZ => run_storeCells_new (P := Tryd.prog) w 98 Z _ (by rw [hcs]; exact info_block) (by rw [hcs, hZ]) hall
  have hst := hst0 _ hzs
  have h1 : DiskIn (w.alloc (.cells (cellsB (atS D.s k).next).toArray 98)) lo hi b g mb wb c l P W D := h.keep (lo' := hi) (hi' := hi) (Turn.alloc _) (.inl (Nat.le_refl _))
  have H1 := hidep h1
  have HMN : Hid (mb < w.heap.size) := hidep h.pend.lt
  have hpm := h1.pend
  clear hst0 hall h1 h hpo hps
  generalize hCL : cellsB (atS D.s k).next = CL at *
  have HCL := hidep hCL
  clear hCL
  generalize (cellsB zeros).toArray = Z at *
  go_enter Tryd.func69, Tryd.ntmps69
  go_upto_region 2 with (first
    | (refine wpList_alloc_rowD (o := ⟨some 6, _, _, _, _, _⟩) hzb _ rfl rfl ?_)
    | (at_delete; refine wpList_delete_own _ rfl _ _ 69 3 rfl 98 keyedInt Tryd.underlying69 _ mb _ _ rfl hpm _ _ rfl (keyI (i64ok_mk hi64)) ?_; intro w2 hown2 hturn2)
    | fail)
  clear hpm hl0 hzb hzs hst hcs c1
  have hgr := hturn2.grown
  have hblk : w2.heap[w.heap.size]? = some (.cells CL.toArray 98 (0, 0)) := (hgr.block _ (by simp) (by intro e; injection e with e; have := HMN.out; omega)).trans (heap_alloc_new _ _)
  obtain ⟨h2, hT2⟩ := H1.out.delPend HK.out hown2 hgr
  have HT2 : Hid (Turn lo hi w w2) := hidep ((Turn.alloc _).trans hT2)
  clear hown2 hturn2 hgr hT2 H1 HMN
  have hk2 : k < (D.s.set k (struck (atS D.s k))).length := by simpa using hk
  have hwk : wornAt (D.s.set k (struck (atS D.s k))) (k : Int) = (atS D.s k).worn := by rw [wornAt_nat hk2, atS_set hk, if_pos rfl]; rfl
  have hlw : ∀ n, (Instr.lookup 70 (.map (some wb)) (.int .i64 k) false).run Tryd.prog (w2.drewN n) = .ok (.bool (atS D.s k).worn) (w2.drewN n) := fun n => by
    have := look_worn0 (w := w2.drewN n) (ownsMap_block h2.worn rfl) h2.wv (i64ok_mk hi64)
    rw [hwk] at this
    exact this
  have c0 := h2.c0
  have c2 := h2.c2
  rw [show ({ D with s := D.s.set k (struck (atS D.s k)) } : Dk).s.length = D.s.length by simp] at c0
  have hmx := h2.ok.1.2.1
  rw [show ({ D with s := D.s.set k (struck (atS D.s k)) } : Dk).s.length = D.s.length by simp] at hmx
  have HD2 := hidep h2
  have hrg1 : w2.rangeAt w.heap.size 0 CL := fun j v hv => by simp only [World.cell?, hblk]; simpa using hv
  have hlen1 : CL.length = 64 := by rw [← HCL.out, cellsB_len, HPS.out]
  have hxt : (atS (D.s.set k (struck (atS D.s k))) k).text = (atS D.s k).text := by rw [atS_set hk, if_pos rfl]; rfl
  have hrg2 := block_at h2.row h2.ok.1 hk2
  rw [hxt] at hrg2
  have hts := (h2.ok.1.at hk2).1
  rw [hxt] at hts
  have HNE := hidep (fun W : World => neq_block W (atS D.s k).next (atS D.s k).text HPS.out hts)
  have hlen2 : (cellsB (atS D.s k).text).length = 64 := by rw [cellsB_len, hts]
  rw [HCL.out] at HNE
  generalize hCT : cellsB (atS D.s k).text = CT at *
  have HCT := hidep hCT
  have HTS := hidep hts
  have HR1 := hidep hrg1
  have HR2 := hidep hrg2
  have HL1 := hidep hlen1
  have HL2 := hidep hlen2
  clear hrg1 hrg2 hlen1 hlen2 hxt hts hCT
  cases hw : (atS D.s k).worn with
  | true =>
    have HE := hidep (settle_keeps (S := D.s) (k := k) (p := p) (.inl hw))
    rw [hw] at hlw
    clear hwk hw hd h2 hblk
    refine wp_region_quiet_lit (by kernel_rfl) (by kernel_rfl) ?_
    iterate 5 (first | go_big_quiet_step (fail) | quiet_step (fail))
    refine wpQuiet_run (by rfl) (.bool true) (by rintro W' ⟨n, rfl⟩; exact run_lookup_op (by rfl) (by rfl) (by rfl) (hlw n)) ?_
    simp only [Act.put, List.setIfInBounds_toArray, List.set_cons_zero, List.set_cons_succ]
    iterate 12 (first | go_big_quiet_step (fail) | quiet_step (fail))
    refine wpQuiet_nil ?_
    intro _ hw'
    obtain ⟨nq, hw''⟩ := hw'
    subst hw''
    go_wp2
    go_end0
    refine ⟨rfl, ⟨b, g, mb, wb, c, l, P.del (kI (k : Int)), W, rfl, ?_⟩, HT2.out.trans (Turn.drewN nq)⟩
    rw [HE.out]
    exact HD2.out.keep (lo' := hi) (hi' := hi) (Turn.drewN nq) (.inl (Nat.le_refl _))
  | false =>
    have HW := hidep hw
    rw [hw] at hlw
    have hI0 : 0 ≤ (k : Int) := by omega
    have hI1 : (k : Int) < (D.s.length : Int) := by omega
    clear hwk hw hd h2 hblk
    refine wp_region_quiet_lit (by kernel_rfl) (by kernel_rfl) ?_
    iterate 5 (first | go_big_quiet_step (fail) | quiet_step (fail))
    refine wpQuiet_run (by rfl) (.bool false) (by rintro W' ⟨n, rfl⟩; exact run_lookup_op (by rfl) (by rfl) (by rfl) (hlw n)) ?_
    simp only [Act.put, List.setIfInBounds_toArray, List.set_cons_zero, List.set_cons_succ]
    iterate 2 (first | go_big_quiet_step (fail) | quiet_step (fail))
    refine wpQuiet_run (by rfl) (.agg CL.toArray) (by rintro W' ⟨n, rfl⟩; exact run_load_op (by rfl) (by rfl) (run_loadAt_mid (w2.drewN n) w.heap.size 0 98 CL _ HR1.out Tryd.underlying98 rfl (by rw [HL1.out]; exact info_block))) ?_
    simp only [Act.put, List.setIfInBounds_toArray, List.set_cons_zero, List.set_cons_succ]
    iterate 6 (first | go_big_quiet_step (fail) | quiet_step (fail))
    refine wpQuiet_run (by rfl) (.agg CT.toArray) (by rintro W' ⟨n, rfl⟩; exact run_load_op (by rfl) (by rfl) (run_loadAt_mid (w2.drewN n) g (k * 64) 98 CT _ HR2.out Tryd.underlying98 rfl (by rw [HL2.out]; exact info_block))) ?_
    simp only [Act.put, List.setIfInBounds_toArray, List.set_cons_zero, List.set_cons_succ]
    refine wpQuiet_run (by rfl) (.bool (!decide ((atS D.s k).next = (atS D.s k).text))) (by rintro W' ⟨n, rfl⟩; exact run_neq_op (by rfl) (by rfl) (by rfl) (guard_block _ _ _ _ _ _) (HNE.out _)) ?_
    simp only [Act.put, List.setIfInBounds_toArray, List.set_cons_zero, List.set_cons_succ]
    quiet_step (fail)
    refine wpQuiet_nil ?_
    intro _ hw'
    obtain ⟨nq, hw''⟩ := hw'
    subst hw''
    generalize hdec : decide ((atS D.s k).next = (atS D.s k).text) = dq
    cases dq with
    | true =>
      have HE := hidep (settle_keeps (S := D.s) (k := k) (p := p) (.inr ⟨of_decide_eq_true hdec, HTS.out⟩))
      clear hdec
      simp only [Bool.not_true]
      go_wp2
      go_end0
      refine ⟨rfl, ⟨b, g, mb, wb, c, l, P.del (kI (k : Int)), W, rfl, ?_⟩, HT2.out.trans (Turn.drewN nq)⟩
      rw [HE.out]
      exact HD2.out.keep (lo' := hi) (hi' := hi) (Turn.drewN nq) (.inl (Nat.le_refl _))
    | false =>
      clear hdec hlw HNE c2
      have HD3 := hidep (HD2.out.keep (lo' := hi) (hi' := hi) (Turn.drewN (nq + 1)) (.inl (Nat.le_refl _)))
      have HT3 := hidep (HT2.out.trans (Turn.drewN (nq + 1)))
      have HR3 : Hid ((w2.drewN (nq + 1)).rangeAt w.heap.size 0 CL) := hidep HR1.out
      have HC3 := hidep (fun m hm => (HD3.out.copied (p := p) (m := m) HK.out HPS.out HTS.out HW.out hm))
      rw [HCL.out] at HC3
      have HTH : Hid ((w2.drewN (nq + 1)).there g (k * 64) 64) := hidep (HD3.out.row.there (by rw [blocksC_len HD3.out.ok.1]; simp only [List.length_set]; have := HK.out; omega))
      have hone : ∀ v ∈ CL, v.oneCell' = true := by rw [← HCL.out]; exact cellsB_one _
      have HONE := hidep hone
      clear hone
      obtain ⟨m, hm⟩ : ∃ m, clampP p = m := ⟨_, rfl⟩
      have hm64 : m ≤ 64 := by rw [← hm]; exact clampP_le p
      have HM := hidep hm
      have hmm : max 0 (min p 64) = (m : Int) := by rw [← hm]; unfold clampP; omega
      clear hm
      have hsl := fun W => run_sliceAt_hi (P := Tryd.prog) Tryd.underlying98 size_byte g (k * 64) hm64 W
      generalize D.s.length = n at c0 hI1 hmx hk
      simp only [Bool.not_false]
      go_upto_region 3 with (fail)
      go_region_law (first
        | (refine step_copy_cells _ (by rfl) (.tmp 45) (.tmp 46) 36 36 5 (by rfl) Tryd.underlying36 (by kernel_rfl) g (k * 64) m 64 ⟨w.heap.size, 0, none⟩ 64 64 (by rfl) (by rfl) (CL.take m) (by rw [List.length_take, HL1.out]; exact Nat.min_comm m 64) (by exact take_src HR3.out) (by exact fun j hj => (HTH.out j (by rw [List.length_take] at hj; omega)).1) (by exact fun j hj => (HTH.out j (by rw [List.length_take] at hj; omega)).2) (by exact fun v hv => HONE.out v (List.mem_of_mem_take hv)) ?_; dsimp only)
        | fail)
      all_goals go_end0
      all_goals have hfin := HC3.out m HM.out
      all_goals exact ⟨rfl, ⟨b, g, mb, wb, c, l, P.del (kI (k : Int)), W, rfl, hfin.1⟩, HT3.out.trans hfin.2⟩
end Go.Proofs.YtipbkdlekanlmaaDoor
/- Contracts of the reference's disk: Flush, Mount. -/
namespace Go.Proofs.YtipbkdlekanlmaaDoor
open Go.RowKit Go.Lab Go.Disk Go.Maps
theorem flushE_off {D : Dk} (h : D.off = true) : flushE D = 25 ∧ flushD D = D := ⟨if_pos h, if_pos h⟩
theorem flushE_down {D : Dk} (h : D.off = false) (hl : D.left = 0) : flushE D = 25 ∧ flushD D = stepD D := by
  unfold flushE flushD
  simp [h, stepE_0 hl]
theorem flushE_ok {D : Dk} (h : D.off = false) (hl : D.left ≠ 0) : flushE D = 0 ∧ flushD D = { stepD D with s := mountS D.s [] } := by
  unfold flushE flushD
  simp [h, stepE_1 hl]
theorem cntD_le (S : List Sec) (k : Nat) : cntD S k ≤ k := by
  unfold cntD
  have h1 := List.length_filter_le (fun x : Sec => x.dirty) (S.take k)
  rw [List.length_take] at h1
  omega
theorem getD_nil (k : Nat) : ([] : List Int).getD k 64 = 64 := by simp
end Go.Proofs.YtipbkdlekanlmaaDoor
