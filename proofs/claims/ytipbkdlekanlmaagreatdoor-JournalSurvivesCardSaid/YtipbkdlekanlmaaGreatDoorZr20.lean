/- Contract of the program's disk: Write. -/
import Derived.Test.YtipbkdlekanlmaaGreatDoorZr19
import Derived.Test.YtipbkdlekanlmaaGreatDoorZr03
import Derived.Test.YtipbkdlekanlmaaGreatDoorZr18
import Derived.Deep.OwnRows
namespace Go.Proofs.YtipbkdlekanlmaaGreatDoor
open Go.RowKit Go.Lab Go.Disk Go.Maps
theorem map_set_same {S : List Sec} {k : Nat} {x : Sec} (hk : k < S.length) (ht : x.text = (atS S k).text) : (S.set k x).map (·.text) = S.map (·.text) := by
  rw [List.map_set, ht, atS_get hk]
  have h2 : k < (S.map (·.text)).length := by simpa using hk
  have : S[k].text = (S.map (·.text))[k] := by simp
  rw [this, List.set_getElem_self]
theorem blocksC_map (S : List Sec) : blocksC S = (S.map (·.text)).flatMap cellsB := by
  unfold blocksC
  rw [List.flatMap_map]
theorem blocksC_same {S : List Sec} {k : Nat} {x : Sec} (hk : k < S.length) (ht : x.text = (atS S k).text) : blocksC (S.set k x) = blocksC S := by rw [blocksC_map, map_set_same hk ht, blocksC_map]
section
variable {lo hi b g mb wb c : Nat} {l : Int} {P W : DataW Unit} {D : Dk} {w : World}
/-- One sector turns into x, the text stays; the maps turn as they must. -/
theorem DiskIn.setMaps (h : DiskIn w lo hi b g mb wb c l P W D) {w' : World} {k : Nat} {x : Sec} {P' W' : DataW Unit} (hk : k < D.s.length) (hx : x.Ok) (ht : x.text = (atS D.s k).text) (hz : w.heap.size ≤ w'.heap.size)
    (e1 : w'.heap[b]? = w.heap[b]?) (e2 : w'.heap[g]? = w.heap[g]?) (hp : pendMap w' mb (size P') P') (hw : wornMap w' wb (size W') W') (hpv : PendView P' (D.s.set k x)) (hwv : WornView W' (D.s.set k x)) :
    DiskIn w' lo hi b g mb wb c l P' W' { D with s := D.s.set k x } :=
  ⟨h.hb, h.hg, h.hm, h.hw, Nat.le_trans h.hi hz, h.ne, by simpa using h.cap, by simpa using h.top.of_block e1, by show RowAt w' g 86 (blocksC (D.s.set k x)); rw [blocksC_same hk ht]; exact h.row.of_block e2, hp, hw, hpv, hwv, h.lft, ⟨h.ok.1.set k hx, h.ok.2⟩⟩
end
theorem keep_of_grown {w w' : World} {mb : Nat} (hg : w.grownBy w' (some mb)) {k : Nat} (hk : k < w.heap.size) (hne : k ≠ mb) : w'.heap[k]? = w.heap[k]? := hg.block k hk (fun e => hne (by injection e))
theorem DiskIn.putPend {lo hi b g mb wb c : Nat} {l : Int} {P W : DataW Unit} {D : Dk} {w w' : World} (h : DiskIn w lo hi b g mb wb c l P W D) {k : Nat} (hk : k < D.s.length) {s : ByteArray} (hs : s.size = 64) {m : Nat}
    (hm : w'.ownsMap Tryz.prog 3 blockElem mb m (P.put (kI (k : Int)) (.lit (.string s.data.toList)))) (hg : w.grownBy w' (some mb)) :
    DiskIn w' lo hi b g mb wb c l (P.put (kI (k : Int)) (.lit (.string s.data.toList))) W { D with s := writeS D.s k s } ∧ Turn lo hi w w' := by
  have n1 := ownsMap_ne h.pend h.top
  have n2 := ownsMap_ne h.pend h.row
  have n3 := h.ne
  refine ⟨h.setMaps hk ⟨(h.ok.1.at hk).1, fun _ => hs⟩ rfl hg.size (keep_of_grown hg h.top.lt (Ne.symm n1)) (keep_of_grown hg h.row.lt (Ne.symm n2)) (ownsMap_size hm) (ownsMap_block h.worn (keep_of_grown hg h.worn.lt (Ne.symm n3))) (h.pv.put (x := { atS D.s k with next := s, dirty := true }) h.pend.isMap hk rfl) (h.wv.same hk rfl), Turn.grown hg (fun q e => by injection e with e; subst e; exact h.hm)⟩
theorem block_range {w : World} {g : Nat} {s : ByteArray} (h : BytesIn w g (nums s)) : w.rangeAt g 0 (cellsB s) := fun j v hv => by
  have hj : j < s.size := by rw [← cellsB_len]; exact (List.getElem?_eq_some_iff.1 hv).1
  rw [cellsB_get s hj] at hv
  rw [Nat.zero_add, h.cell j (by rw [nums_len]; exact hj)]
  exact hv
theorem load_block {w : World} {g : Nat} {s : ByteArray} (h : BytesIn w g (nums s)) (hs : s.size = 64) : (Instr.loadAt 86 (.pointer (some ⟨g, 0, none⟩))).run Tryz.prog w = .ok (.agg (cellsB s).toArray) w :=
  run_loadAt_mid w g 0 86 (cellsB s) _ (block_range h) Tryz.underlying86 rfl (by rw [cellsB_len, hs]; exact info_block)
theorem size_block (w : World) : (sizeOf 86).run Tryz.prog w = .ok 64 w := by kernel_rfl
theorem run_arrayAt_ok {P : Program} {arr e : TypeId} {n : Nat} (hu : P.underlying arr = some (.array n e)) (a : Option Addr) {len cap : Nat} (h : n ≤ len) (w : World) : (Instr.arrayAt arr (.slice a len cap)).run P w = .ok (.pointer a) w := by
  have : ¬ len < n := by omega
  simp [Instr.arrayAt, run_underlying hu, this, Result.andThen]
theorem load_cells64 {P : Program} {w : World} {g : Nat} {s : ByteArray} (h : BytesIn w g (nums s)) (hs : s.size = 64) : (loadCellsFrom ⟨g, 0, none⟩ 0 64 #[]).run P w = .ok (cellsB s).toArray w := by
  have := run_loadCells_list (P := P) w ⟨g, 0, none⟩ (cellsB s) (fun j v hv => by rw [Addr.add_mid]; exact block_range h j v hv)
  rw [cellsB_len, hs] at this
  exact this
set_option maxHeartbeats 2000000 in
set_option maxRecDepth 100000 in
theorem write_any (p : Value) (D : Dk) (i : Int) (s : ByteArray) (w : World) (lo hi : Nat) (h : DiskAt w lo hi p D) (hmax : s.size ≤ maxLen) (hi64 : -9223372036854775808 ≤ i ∧ i ≤ 9223372036854775807) :
    Calls Tryz.prog 10 #[p, .int .i64 i, .string s] w fun e w' => e = .returned (.int .i64 (writeE D i s)) ∧ DiskAt w' lo hi p (writeD D i s) ∧ Turn lo hi w w' := by
  have HC := hidep (fun W hW => check_any p D i W lo hi (hW : DiskAt W lo hi p D))
  have HS := hidep (fun W hW => step_any p D W lo hi (hW : DiskAt W lo hi p D))
  unfold maxLen at hmax
  obtain ⟨b, g, mb, wb, c, l, P, W, rfl, h⟩ := h
  have H : Hid (DiskAt w lo hi (.pointer (some ⟨b, 0, none⟩)) D) := hidep ⟨b, g, mb, wb, c, l, P, W, rfl, h⟩
  clear h
  cases hoff : D.off with
  | true =>
    have HZ := hidep (writeE_off i s hoff)
    have HK := hidep (checkZ_off i hoff)
    clear hoff
    go_enter Tryz.func10, Tryz.ntmps10
    go_wp2_with (go_at_call 43; refine (HC.out _ H.out).mono ?_; rintro e w' ⟨rfl, rfl⟩; rw [HK.out])
    go_ret
    exact ⟨ret_val (congrArg _ HZ.out.1.symm), by rw [HZ.out.2]; exact H.out, Turn.refl _ _ _⟩
  | false =>
    cases hin : D.isIn i with
    | false =>
      have HZ := hidep (writeE_out s hoff hin)
      have HK := hidep (checkZ_out hoff hin)
      clear hoff hin
      go_enter Tryz.func10, Tryz.ntmps10
      go_wp2_with (go_at_call 43; refine (HC.out _ H.out).mono ?_; rintro e w' ⟨rfl, rfl⟩; rw [HK.out])
      go_ret
      exact ⟨ret_val (congrArg _ HZ.out.1.symm), by rw [HZ.out.2]; exact H.out, Turn.refl _ _ _⟩
    | true =>
      have HK := hidep (checkZ_in hoff hin)
      by_cases hs : s.size = 64
      · by_cases hl : D.left = 0
        · have HZ := hidep (writeE_down hoff hin hs hl)
          have HE := hidep (stepE_0 hl)
          clear hoff hin hl
          go_enter Tryz.func10, Tryz.ntmps10
          go_wp2_with (first
            | (go_at_call 43; refine (HC.out _ H.out).mono ?_; rintro e w' ⟨rfl, rfl⟩; rw [HK.out])
            | (go_at_call 44; refine (HS.out _ H.out).mono ?_; rintro e w' ⟨rfl, hD, hT⟩; rw [HE.out]))
          go_ret
          exact ⟨ret_val (congrArg _ HZ.out.1.symm), by rw [HZ.out.2]; exact hD, hT⟩
        · obtain ⟨h0, hk⟩ := isIn_lt hin
          obtain ⟨k, rfl⟩ : ∃ k : Nat, i = (k : Int) := ⟨i.toNat, by omega⟩
          rw [Int.toNat_natCast] at hk
          have HZ := hidep (writeE_ok hoff hk hs hl)
          have HE := hidep (stepE_1 hl)
          have HK1 : Hid (k < (stepD D).s.length) := hidep (by rw [stepD_s]; exact hk)
          have HSZ := hidep hs
          have hsle : s.size ≤ 64 := Nat.le_of_eq hs
          have hsge : 64 ≤ s.size := Nat.le_of_eq hs.symm
          clear hs
          clear hoff hin hl h0
          go_enter Tryz.func10, Tryz.ntmps10
          go_upto_region 9 with (first
            | (go_at_call 43; refine (HC.out _ H.out).mono ?_; rintro e w' ⟨rfl, rfl⟩; rw [HK.out])
            | (go_at_call 44; refine (HS.out _ H.out).mono ?_; rintro e w1 ⟨rfl, hD, hT⟩; rw [HE.out]))
          obtain ⟨b1, g1, mb, wb, c, l, P, W, hbb, h1⟩ := hD
          obtain rfl := ptr_inj hbb
          have c1 := h1.c1
          have hbl := h1.top.lt
          have H1 := hidep h1
          have HT := hidep hT
          have hmbl := h1.pend.lt
          have hps := pend_size h1.pend h1.pv
          have hn4 := h1.ok.1.2.1
          have hown := hidep h1.pend
          have hps2 : size P ≤ 4096 := by omega
          obtain ⟨cc, w2, hrun, hcc, hb2, hn2, hz2⟩ := run_bytes_new (P := Tryz.prog) Tryz.underlying9 Tryz.underlying81 Tryz.underlying5 w1.drew s
          have hrun2 : (convert 9 81 (.string s)).run Tryz.prog w1.drew = .ok (.slice (some ⟨w1.heap.size, 0, none⟩) s.size cc) w2 := hrun
          have hn3 : BytesIn w2 w1.heap.size (nums s) := hn2
          obtain ⟨N, hN⟩ : ∃ N, N = 64 := ⟨_, rfl⟩
          have hsz74 : ∀ w, (sizeOf 86).run Tryz.prog w = .ok N w := by intro w; rw [hN]; exact size_block w
          have hld : (loadCellsFrom ⟨w1.heap.size, 0, none⟩ 0 N #[]).run Tryz.prog w2 = .ok (cellsB s).toArray w2 := by rw [hN]; exact load_cells64 hn3 HSZ.out
          clear hN
          have hb2 : Below w1.heap.size w1 w2 := ⟨hb2.os, hb2.tape, hb2.output, hb2.size, hb2.block⟩
          have hT12 : Turn hi hi w1 w2 := Turn.of_below hb2
          have harr := run_arrayAt_ok (P := Tryz.prog) Tryz.underlying86 (some ⟨w1.heap.size, 0, none⟩) (len := s.size) (cap := cc) hsge w2
          have h2 := h1.keep hT12 (.inl (Nat.le_refl _))
          have c1b := h2.c1
          obtain ⟨w3, hr3, ho3, hg3⟩ := h2.pend.update (P := Tryz.prog) keyedInt Tryz.underlying75 (by unfold maxLen; omega) (keyI (i64ok_mk hi64)) (blockElem_mk HSZ.out)
          have hF := h2.putPend HK1.out HSZ.out ho3 hg3
          have c1c := hF.1.c1
          have HF := hidep hF
          have HT2 : Hid (Turn lo hi w1 w2) := hidep (Turn.of_below hb2)
          clear hF h1 h2 hT hbb HC HS HK HE hk hps hn4 hown hps2 hT12 hn2 hn3 hz2 hrun ho3 hg3 hb2 hmbl hbl hi64
          generalize cellsB s = C at *
          go_region
          go_wp2
          go_ret
          refine ⟨ret_val (congrArg _ HZ.out.1.symm), ?_, HT.out.trans (HT2.out.trans HF.out.2)⟩
          rw [HZ.out.2]
          have e := stepD_s D
          exact ⟨b, g1, mb, wb, c, l, _, W, rfl, by rw [← e]; exact HF.out.1⟩
      · have HZ := hidep (writeE_size (i := i) hoff hs)
        clear hoff hin
        have hs1 : s.size < 64 ∨ 64 < s.size := by omega
        clear hs
        rcases hs1 with hs1 | hs1
        all_goals
          go_enter Tryz.func10, Tryz.ntmps10
          go_wp2_with (go_at_call 43; refine (HC.out _ H.out).mono ?_; rintro e w' ⟨rfl, rfl⟩; rw [HK.out])
          go_ret
          exact ⟨ret_val (congrArg _ HZ.out.1.symm), by rw [HZ.out.2]; exact H.out, Turn.refl _ _ _⟩
end Go.Proofs.YtipbkdlekanlmaaGreatDoor
/- Contracts of the program's disk: Wear, Image. -/
namespace Go.Proofs.YtipbkdlekanlmaaGreatDoor
open Go.RowKit Go.Lab Go.Disk Go.Maps
theorem DiskIn.putWorn {lo hi b g mb wb c : Nat} {l : Int} {P W : DataW Unit} {D : Dk} {w w' : World} (h : DiskIn w lo hi b g mb wb c l P W D) {k : Nat} (hk : k < D.s.length) {m : Nat}
    (hm : w'.ownsMap Tryz.prog 3 (plainElem Tryz.prog 4) wb m (W.put (kI (k : Int)) (.lit (.bool true)))) (hg : w.grownBy w' (some wb)) :
    DiskIn w' lo hi b g mb wb c l P (W.put (kI (k : Int)) (.lit (.bool true))) { D with s := wearS D.s k } ∧ Turn lo hi w w' := by
  have n1 := ownsMap_ne h.worn h.top
  have n2 := ownsMap_ne h.worn h.row
  have n3 := h.ne
  refine ⟨h.setMaps hk ⟨(h.ok.1.at hk).1, (h.ok.1.at hk).2⟩ rfl hg.size (keep_of_grown hg h.top.lt (Ne.symm n1)) (keep_of_grown hg h.row.lt (Ne.symm n2)) (ownsMap_block h.pend (keep_of_grown hg h.pend.lt n3)) (ownsMap_size hm) (h.pv.same hk rfl rfl) (h.wv.put (x := { atS D.s k with worn := true }) h.worn.isMap hk rfl), Turn.grown hg (fun q e => by injection e with e; subst e; exact h.hw)⟩
set_option maxHeartbeats 1000000 in
set_option maxRecDepth 100000 in
theorem wear_any (p : Value) (D : Dk) (i : Int) (w : World) (lo hi : Nat) (h : DiskAt w lo hi p D) (hi64 : -9223372036854775808 ≤ i ∧ i ≤ 9223372036854775807) :
    Calls Tryz.prog 34 #[p, .int .i64 i] w fun e w' => e = .returned (.int .i64 (if D.isIn i = true then 0 else 1)) ∧ DiskAt w' lo hi p (wearD D i) ∧ Turn lo hi w w' := by
  obtain ⟨b, g, mb, wb, c, l, P, W, rfl, h⟩ := h
  have H : Hid (DiskAt w lo hi (.pointer (some ⟨b, 0, none⟩)) D) := hidep ⟨b, g, mb, wb, c, l, P, W, rfl, h⟩
  have c0 := h.c0
  have c2 := h.c2
  have hmx := h.ok.1.2.1
  cases hin : D.isIn i with
  | false =>
    have HW : Hid (wearD D i = D) := hidep (by unfold wearD; rw [if_neg (by rw [hin]; simp)])
    have hc := isIn_out hin
    clear hin h
    generalize D.s.length = n at *
    rcases hc with h1 | ⟨h1, h2⟩
    all_goals
      go_enter Tryz.func34, Tryz.ntmps34
      go_wp2
      go_ret
      exact ⟨rfl, by rw [HW.out]; exact H.out, Turn.refl _ _ _⟩
  | true =>
    obtain ⟨h0, hk⟩ := isIn_lt hin
    obtain ⟨k, rfl⟩ : ∃ k : Nat, i = (k : Int) := ⟨i.toNat, by omega⟩
    rw [Int.toNat_natCast] at hk
    have HW : Hid (wearD D (k : Int) = { D with s := wearS D.s k }) := hidep (by unfold wearD; rw [if_pos hin]; rfl)
    have hws := worn_size h.worn h.wv
    obtain ⟨w3, hr3, ho3, hg3⟩ := h.worn.update (P := Tryz.prog) keyedInt Tryz.underlying45 (by unfold maxLen; omega) (keyI (i64ok_mk hi64)) (plainElem_bool Tryz.underlying4 true)
    have HF := hidep (h.putWorn hk ho3 hg3)
    have hI0 : 0 ≤ (k : Int) := by omega
    have hI1 : (k : Int) < (D.s.length : Int) := by omega
    clear hin h h0 hws ho3 hg3 hi64
    generalize D.s.length = n at *
    go_enter Tryz.func34, Tryz.ntmps34
    go_wp2
    go_ret
    exact ⟨rfl, by rw [HW.out]; exact ⟨b, g, mb, wb, c, l, P, _, rfl, HF.out.1⟩, HF.out.2⟩
theorem imageZ_len (D : Dk) : (imageZ D).length = D.s.length := by simp [imageZ]
theorem mk_strs (n : Nat) (h : n ≤ 4096) (W : World) : (Instr.makeSlice 22 (.int .i64 n) (.int .i64 n)).run Tryz.prog W = .ok (.slice (some ⟨W.heap.size, 0, none⟩) n n) (W.alloc (.cells (madeCells #[.string ByteArray.empty] n) 9)) :=
  run_make_row' 22 9 (.string ByteArray.empty) 16 Tryz.underlying22 (by kernel_rfl) rfl .i64 .i64 n (by omega) (by omega) W
theorem strsC_len (L : List ByteArray) : (strsC L).length = L.length := by simp [strsC]
/-- the image in the making: the first j texts, the rest empty -/
def imgRow (L : List ByteArray) (j n : Nat) : List Value := strsC (L.take j) ++ List.replicate (n - j) (.string ByteArray.empty)
theorem imgRow_set {L : List ByteArray} {j n : Nat} (hj : j < L.length) (hn : L.length = n) : (imgRow L j n).set j (.string L[j]) = imgRow L (j + 1) n := by
  unfold imgRow
  have hl : (strsC (L.take j)).length = j := by simp [strsC]; omega
  rw [List.set_append_right _ _ (by omega), hl, Nat.sub_self, List.take_succ_eq_append_getElem hj]
  have e : n - j = (n - (j + 1)) + 1 := by omega
  rw [e, List.replicate_succ, List.set_cons_zero]
  unfold strsC
  rw [List.map_append, List.append_assoc]
  rfl
theorem imgRow_len (L : List ByteArray) (j n : Nat) (hn : L.length = n) (hj : j ≤ n) : (imgRow L j n).length = n := by
  simp [imgRow, strsC]; omega
set_option maxHeartbeats 1000000 in
set_option maxRecDepth 100000 in
theorem image_any (p : Value) (D : Dk) (w : World) (lo hi : Nat) (h : DiskAt w lo hi p D) :
    Calls Tryz.prog 19 #[p] w fun e w' => ∃ v, e = .returned (.slice (some ⟨v, 0, none⟩) D.s.length D.s.length) ∧ w.heap.size ≤ v ∧ RowAt w' v 9 (strsC (imageZ D)) ∧ Below w.heap.size w w' := by
  obtain ⟨b, g, mb, wb, c, l, P, W, rfl, h⟩ := h
  have c0 := h.c0
  have hmx := h.ok.1.2.1
  have hm1 := h.ok.1.1
  have hbl := h.top.lt
  have hcv : ∀ W', Below w.heap.size w W' → ∀ k, k < D.s.length → (convert 81 9 (.slice (some ⟨g, k * 64, none⟩) 64 64)).run Tryz.prog W' = .ok (.string (atS D.s k).text) W' := fun W' hW k hk => cv_sector (h.row.of_block (hW.block _ h.row.lt)) h.ok.1 hk 64
  have HCV := hidep hcv
  clear hcv h
  obtain ⟨n, hn⟩ : ∃ n, D.s.length = n := ⟨_, rfl⟩
  rw [hn] at c0 hmx hm1
  have HN := hidep hn
  have hmk := mk_strs n hmx
  clear hn
  go_enter Tryz.func19, Tryz.ntmps19
  go_wp2
  have hr0 : RowAt (w.alloc (.cells (madeCells #[.string ByteArray.empty] n) 9)) w.heap.size 9 (imgRow (imageZ D) 0 n) := by
    have := RowAt.new w (madeCells #[.string ByteArray.empty] n) 9
    rw [toList_madeCells_one] at this
    simpa [imgRow, strsC] using this
  have HR0 := hidep hr0
  clear hr0
  go_loopw [4, 16] (fun _ i wr => ∃ j : Nat, j ≤ n ∧ i = .int .i64 j ∧ Hid (RowAt wr w.heap.size 9 (imgRow (imageZ D) j n)) ∧ Hid (Below w.heap.size w wr)) (fun _ i _ => n - (RowKit.intOf i).toNat)
  case atStart => exact ⟨0, Nat.zero_le _, rfl, HR0, hidep ((Below.refl _ _).alloc (Nat.le_refl _) _)⟩
  case round =>
    obtain ⟨j, hj, rfl, HR, HB⟩ := hrel
    have hL : (imageZ D).length = n := by rw [imageZ_len]; exact HN.out
    by_cases hlt : j < n
    · have c0r := (HB.out.cell (p := ⟨b, 0, none⟩) hbl).trans c0
      have hz := HB.out.size
      have hjl : j < D.s.length := by rw [HN.out]; exact hlt
      have hcv := HCV.out wr HB.out j hjl
      have hcell := HR.out.cell (j := j) (List.getElem?_eq_getElem (by rw [imgRow_len _ _ _ hL hj]; exact hlt))
      have hfree := HR.out.free j
      have HS : Hid (RowAt (wr.setCell ⟨w.heap.size, j, none⟩ (.string (atS D.s j).text)) w.heap.size 9 (imgRow (imageZ D) (j + 1) n)) := hidep (by
        have := HR.out.setCell (o := j) (by rw [imgRow_len _ _ _ hL hj]; exact hlt) (.string (atS D.s j).text)
        have e : (atS D.s j).text = (imageZ D)[j]'(by omega) := by simp [imageZ, atS_get hjl]
        rw [e, imgRow_set (by omega) hL] at this
        rw [e]; exact this)
      generalize (imgRow (imageZ D) j n)[j]'_ = old at *
      generalize (atS D.s j).text = x at *
      clear hL hjl
      go_wp2
      go_roundw
      case rel => exact ⟨j + 1, by omega, by go_num, HS, hidep (HB.out.setCell (Nat.le_refl _) _)⟩
      case measure => simp [RowKit.intOf]; omega
    · go_wp2
      go_ret
      have hjn : j = n := by omega
      have hr := HR.out
      have e : imgRow (imageZ D) j n = strsC (imageZ D) := by
        unfold imgRow
        rw [List.take_of_length_le (by omega), hjn, Nat.sub_self]
        simp
      rw [e] at hr
      refine ⟨w.heap.size, ?_, Nat.le_refl _, hr, HB.out⟩
      rw [HN.out]; rfl
theorem image_strs {w : World} {v : Nat} {D : Dk} (h : RowAt w v 9 (strsC (imageZ D))) (hok : D.Ok) : StrsAt w (.slice (some ⟨v, 0, none⟩) D.s.length D.s.length) (imageZ D) := by
  have hm := hok.1.2.1
  have hrd := (h.rd (n := D.s.length) (k := 1) (c := D.s.length) (by rw [strsC_len, imageZ_len]; omega) (Nat.le_refl _) (by unfold maxLen; omega)).mono (T' := fun _ => True) (fun _ _ => trivial)
  unfold StrsAt
  rw [imageZ_len]
  exact hrd
end Go.Proofs.YtipbkdlekanlmaaGreatDoor
/- Contract of the program's disk: Rot. -/
namespace Go.Proofs.YtipbkdlekanlmaaGreatDoor
open Go.RowKit Go.Lab Go.Disk Go.Maps
theorem nums_str : ∀ {xs : List Int}, (∀ x ∈ xs, 0 ≤ x ∧ x < 256) → nums (strOfNums xs) = xs
  | [], _ => rfl
  | x :: xs, h => by
    have ih := nums_str (xs := xs) (fun y hy => h y (by simp [hy]))
    have hx := h x (by simp)
    unfold nums strOfNums at ih ⊢
    simp only [List.map_cons] at ih ⊢
    rw [ih]
    congr 1
    simp
    omega
theorem rotN_lt {x k : Nat} (hx : x < 256) (hk : k < 8) : rotN x k < 256 := by
  unfold rotN
  exact Nat.xor_lt_two_pow (n := 8) hx (Nat.pow_lt_pow_right (by omega) hk)
theorem cellsB_rot {s : ByteArray} {m : Nat} : cellsB (rotB s m) = (cellsB s).set (m / 8) (.int .u8 ((rotN (s.data.toList.getD (m / 8) 0).toNat (m % 8) : Nat) : Int)) := by
  have hb : rotN (s.data.toList.getD (m / 8) 0).toNat (m % 8) < 256 := rotN_lt (UInt8.toNat_lt _) (Nat.mod_lt _ (by omega))
  unfold cellsB
  rw [← rotB_nums (s := s) (m := m) rfl, nums_str, List.map_set]
  intro x hx
  rcases List.mem_or_eq_of_mem_set hx with h1 | rfl
  · exact nums_rng s x h1
  · omega
theorem DiskIn.setRow {lo hi b g mb wb c : Nat} {l : Int} {P W : DataW Unit} {D : Dk} {w w' : World} (h : DiskIn w lo hi b g mb wb c l P W D) {k : Nat} {x : Sec} (hk : k < D.s.length) (hx : x.Ok) (hd : x.dirty = (atS D.s k).dirty) (hn : x.next = (atS D.s k).next) (hw : x.worn = (atS D.s k).worn)
    (hT : Turn g (g + 1) w w') (hrow : RowAt w' g 86 (blocksC (D.s.set k x))) : DiskIn w' lo hi b g mb wb c l P W { D with s := D.s.set k x } ∧ Turn lo hi w w' := by
  have hz := h.hi
  have hg := h.hg
  have hm := h.hm
  have hww := h.hw
  have hbb := h.hb
  have n1 := row_ne h.row h.top (by decide)
  have n2 := ownsMap_ne h.pend h.row
  have n3 := ownsMap_ne h.worn h.row
  refine ⟨⟨h.hb, h.hg, h.hm, h.hw, Nat.le_trans hz hT.size, h.ne, by simpa using h.cap, by simpa using h.top.of_turn hT (by omega), hrow, ownsMap_block h.pend (hT.block _ (by omega) (by omega)), ownsMap_block h.worn (hT.block _ (by omega) (by omega)), h.pv.same hk hd hn, h.wv.same hk hw, h.lft, ⟨h.ok.1.set k hx, h.ok.2⟩⟩, ⟨hT.os, hT.tape, hT.output, hT.size, fun j hj hn => hT.block j hj (by omega)⟩⟩
theorem blocks_rot {S : List Sec} (hok : SOk S) {k m : Nat} (hk : k < S.length) (hm : m / 8 < 64) : (blocksC S).set (k * 64 + m / 8) (.int .u8 ((rotN ((atS S k).text.data.toList.getD (m / 8) 0).toNat (m % 8) : Nat) : Int)) = blocksC (rotS S k m) :=
  chunkm_spl (f := fun x : Sec => cellsB x.text) S (blocks_each hok) k (m / 8) [.int .u8 ((rotN ((atS S k).text.data.toList.getD (m / 8) 0).toNat (m % 8) : Nat) : Int)] { atS S k with text := rotB (atS S k).text m } hk (by simp; omega) (by rw [← atS_get hk]; exact cellsB_rot)
set_option maxHeartbeats 1000000 in
set_option maxRecDepth 100000 in
theorem rot_any (p : Value) (D : Dk) (i bit : Int) (w : World) (lo hi : Nat) (h : DiskAt w lo hi p D) :
    Calls Tryz.prog 17 #[p, .int .i64 i, .int .i64 bit] w fun e w' => e = .returned (.int .i64 (if rotOk D i bit = true then 0 else 1)) ∧ DiskAt w' lo hi p (rotD D i bit) ∧ Turn lo hi w w' := by
  obtain ⟨b, g, mb, wb, c, l, P, W, rfl, h⟩ := h
  have H : Hid (DiskAt w lo hi (.pointer (some ⟨b, 0, none⟩)) D) := hidep ⟨b, g, mb, wb, c, l, P, W, rfl, h⟩
  have c0 := h.c0
  have hmx := h.ok.1.2.1
  cases hr : rotOk D i bit with
  | false =>
    have HW : Hid (rotD D i bit = D) := hidep (by unfold rotD; rw [if_neg (by rw [hr]; simp)])
    have hc := rotOk_cases hr
    clear hr h
    have hc2 : (i < 0) ∨ (0 ≤ i ∧ (D.s.length : Int) ≤ i) ∨ (0 ≤ i ∧ i < (D.s.length : Int) ∧ bit < 0) ∨ (0 ≤ i ∧ i < (D.s.length : Int) ∧ 0 ≤ bit ∧ 511 < bit) := by
      rcases hc with h1 | ⟨h1, h2⟩ | ⟨h1, h2, h3⟩
      · rcases isIn_out h1 with h1 | h1
        · exact .inl h1
        · exact .inr (.inl h1)
      · have := isIn_lt h1
        exact .inr (.inr (.inl ⟨this.1, by omega, h2⟩))
      · have := isIn_lt h1
        exact .inr (.inr (.inr ⟨this.1, by omega, h2, h3⟩))
    clear hc
    generalize D.s.length = n at *
    rcases hc2 with h1 | ⟨h1, h2⟩ | ⟨h1, h2, h3⟩ | ⟨h1, h2, h3, h4⟩
    all_goals
      go_enter Tryz.func17, Tryz.ntmps17
      go_wp2
      go_ret
      exact ⟨rfl, by rw [HW.out]; exact H.out, Turn.refl _ _ _⟩
  | true =>
    have HW : Hid (rotD D i bit = { D with s := rotS D.s i.toNat bit.toNat }) := hidep (by unfold rotD; rw [if_pos hr])
    obtain ⟨hin, h1, h2⟩ := rotOk_true hr
    obtain ⟨h0, hk⟩ := isIn_lt hin
    obtain ⟨k, rfl⟩ : ∃ k : Nat, i = (k : Int) := ⟨i.toNat, by omega⟩
    obtain ⟨m, rfl⟩ : ∃ m : Nat, bit = (m : Int) := ⟨bit.toNat, by omega⟩
    rw [Int.toNat_natCast] at hk HW
    rw [Int.toNat_natCast] at HW
    have hm8 : m / 8 < 64 := by omega
    have d0 := h.row.cell (blocksC_get h.ok.1 hk hm8)
    have f0 := h.row.free (k * 64 + m / 8)
    rw [nums_getD] at d0
    have hxb := UInt8.toNat_lt ((atS D.s k).text.data.toList.getD (m / 8) 0)
    have HB : Hid (∀ y : Int, y = ((rotN ((atS D.s k).text.data.toList.getD (m / 8) 0).toNat (m % 8) : Nat) : Int) → DiskIn (w.setCell ⟨g, k * 64 + m / 8, none⟩ (.int .u8 y)) lo hi b g mb wb c l P W { D with s := rotS D.s k m } ∧ Turn lo hi w (w.setCell ⟨g, k * 64 + m / 8, none⟩ (.int .u8 y))) := hidep (fun y hy => by
      subst hy
      have hrow := h.row.setCell (o := k * 64 + m / 8) (by rw [blocksC_len h.ok.1]; omega) (.int .u8 ((rotN ((atS D.s k).text.data.toList.getD (m / 8) 0).toNat (m % 8) : Nat) : Int))
      rw [blocks_rot h.ok.1 hk hm8] at hrow
      exact h.setRow (x := { atS D.s k with text := rotB (atS D.s k).text m }) hk ⟨by rw [rotB_size]; exact (h.ok.1.at hk).1, (h.ok.1.at hk).2⟩ rfl rfl rfl (Turn.setCell (a := ⟨g, k * 64 + m / 8, none⟩) (Nat.le_refl g) (Nat.lt_succ_self g) _) hrow)
    clear hin h0 hr h
    generalize hxx : ((atS D.s k).text.data.toList.getD (m / 8) 0).toNat = xb at *
    clear hxx
    have hI0 : 0 ≤ (k : Int) := by omega
    have hI1 : (k : Int) < (D.s.length : Int) := by omega
    have hI2 : (m : Int) / 8 < 64 := by omega
    generalize D.s.length = n at *
    go_enter Tryz.func17, Tryz.ntmps17
    go_wp2
    go_region
    go_wp2
    go_ret
    have hfin := HB.out _ (xor_pow xb m (by simpa using hxb))
    refine ⟨rfl, ?_, ?_⟩
    · rw [HW.out]
      exact ⟨b, g, mb, wb, c, l, P, W, rfl, hfin.1.keep (lo' := hi) (hi' := hi) (Turn.drewN 1) (.inl (Nat.le_refl _))⟩
    · exact hfin.2.trans (Turn.drewN 1)
end Go.Proofs.YtipbkdlekanlmaaGreatDoor
/- Equality of two blocks (arrays of bytes) as the model runs it. -/
namespace Go.Proofs.YtipbkdlekanlmaaGreatDoor
open Go.RowKit Go.Lab Go.Disk
section
variable {P : Program} (w : World)
theorem run_part_byte {e : TypeId} (he : P.underlying e = some (.int .u8)) (xs : List Int) (j : Nat) (hj : j < xs.length) : (part e (xs.map (Value.int .u8)).toArray j).run P w = .ok (.int .u8 (xs.getD j 0)) w := by
  unfold part
  have hagg : (isAgg e).run P w = .ok false w := by
    unfold isAgg
    rw [Sem.run_bind, run_underlying he w]
    simp
  have hget : (xs.map (Value.int .u8)).toArray[j]? = some (.int .u8 (xs.getD j 0)) := by
    simp [hj]
  simp only [Sem.run_bind, hagg, Result.andThen_ok, Bool.false_eq_true, if_false, hget, Sem.run_pure]
/-- the loop over the elements, from i on -/
def eqBytes (d : Nat) (e : TypeId) (n : Nat) (xs ys : Array Value) : List Nat → Sem Bool
  | [] => pure true
  | i :: is => do
    let a ← part e xs (i * n)
    let b ← part e ys (i * n)
    let r ← Op.equalIn d e a b
    if (!r) = true then pure false else eqBytes d e n xs ys is
theorem run_equalIn_arr (d n : Nat) (t e : TypeId) (k : Nat) (xs ys : Array Value) (ht : P.underlying t = some (.array k e)) (hs : ∀ w, (sizeOf e).run P w = .ok n w) :
    (Op.equalIn (d + 1) t (.agg xs) (.agg ys)).run P w = (eqBytes d e n xs ys (List.range' 0 k)).run P w := by
  simp only [Op.equalIn, Sem.run_bind, run_underlying ht, Result.andThen_ok, hs]
  rw [Std.Legacy.Range.forIn_eq_forIn_range']
  simp only [Std.Legacy.Range.size, Nat.sub_zero, Nat.add_sub_cancel, Nat.div_one]
  generalize List.range' 0 k = is
  clear ht
  induction is generalizing w with
  | nil => simp [eqBytes]
  | cons i is ih =>
    simp only [List.forIn_cons, eqBytes, Sem.run_bind, Sem.run_ite]
    generalize (part e xs (i * n)).run P w = r1
    cases r1 with
    | ok a w1 =>
      simp only [Result.andThen_ok]
      generalize (part e ys (i * n)).run P w1 = r2
      cases r2 with
      | ok b w2 =>
        simp only [Result.andThen_ok]
        generalize (Op.equalIn d e a b).run P w2 = r3
        cases r3 with
        | ok r w3 =>
          cases r
          · simp only [Result.andThen_ok, Bool.not_false, if_true, Sem.run_pure]
          · simp only [Result.andThen_ok, Bool.not_true, Bool.false_eq_true, if_false, Sem.run_pure]
            exact ih w3
        | halt x w3 => simp [Result.andThen]
      | halt x w2 => simp [Result.andThen]
    | halt x w1 => simp [Result.andThen]
theorem run_eqBytes {e : TypeId} (he : P.underlying e = some (.int .u8)) (d : Nat) (xs ys : List Int) (hl : xs.length = ys.length) : ∀ (m i : Nat), i + m = xs.length →
    (eqBytes (d + 1) e 1 (xs.map (Value.int .u8)).toArray (ys.map (Value.int .u8)).toArray (List.range' i m)).run P w = .ok (decide (xs.drop i = ys.drop i)) w
  | 0, i, h => by
    have h1 : xs.drop i = [] := List.drop_eq_nil_of_le (by omega)
    have h2 : ys.drop i = [] := List.drop_eq_nil_of_le (by omega)
    simp [List.range', eqBytes, h1, h2]
  | m + 1, i, h => by
    have hi : i < xs.length := by omega
    have hi2 : i < ys.length := by omega
    rw [List.range'_succ, eqBytes]
    simp only [Nat.mul_one, Sem.run_bind, run_part_byte w he xs i hi, run_part_byte w he ys i hi2, Result.andThen_ok, run_equalIn_int w d e .u8 .u8 _ _ he, Sem.run_ite, Sem.run_pure]
    rw [run_eqBytes he d xs ys hl m (i + 1) (by omega), List.drop_eq_getElem_cons (l := xs) hi, List.drop_eq_getElem_cons (l := ys) hi2]
    have e1 : xs.getD i 0 = xs[i] := by simp [hi]
    have e2 : ys.getD i 0 = ys[i] := by simp [hi2]
    rw [e1, e2]
    generalize xs[i] = a
    generalize ys[i] = b
    by_cases hq : a = b
    · subst hq; simp
    · have : (a == b) = false := by simpa using hq
      simp [this, hq]
end
theorem size_byte (w : World) : (sizeOf 5).run Tryz.prog w = .ok 1 w := by kernel_rfl
theorem neq_block (w : World) (s t : ByteArray) (hs : s.size = 64) (ht : t.size = 64) : (binOp .neq 86 (.agg (cellsB s).toArray) (.agg (cellsB t).toArray)).run Tryz.prog w = .ok (.bool (!decide (s = t))) w := by
  rw [run_neq_struct, show (10000 : Nat) = (9998 + 1) + 1 from rfl, run_equalIn_arr w (9998 + 1) 1 86 5 64 _ _ Tryz.underlying86 size_byte]
  unfold cellsB
  rw [run_eqBytes w Tryz.underlying5 9998 (nums s) (nums t) (by rw [nums_len, nums_len, hs, ht]) 64 0 (by rw [nums_len, hs])]
  simp only [Result.andThen_ok, List.drop_zero]
  congr 3
  by_cases h : s = t
  · subst h; simp
  · have : ¬ nums s = nums t := fun e => h (nums_inj e)
    rw [decide_eq_false h, decide_eq_false this]
theorem guard_block (op : BinOp) (x y : Operand) (xs ys : Array Value) (w : World) : (eqGuard op 86 x y (.agg xs) (.agg ys)).run Tryz.prog w = .ok () w :=
  run_eqGuard_agg w op 86 x y xs ys (by kernel_rfl)
end Go.Proofs.YtipbkdlekanlmaaGreatDoor
