/- Contract of the program's disk: Write. -/
import Derived.Test.YtmgogmjkoealoaaDkB
import Derived.Test.YtmgogmjkoealoaaDkS
namespace Go.Proofs.Ytmgogmjkoealoaa
open Go.RowKit Go.Lab Go.Disk Go.Maps
theorem map_set_same {S : List Sec} {k : Nat} {x : Sec} (hk : k < S.length) (ht : x.text = (atS S k).text) : (S.set k x).map (·.text) = S.map (·.text) := by
  rw [List.map_set, ht, atS_get hk]
  have h2 : k < (S.map (·.text)).length := by simpa using hk
  have : S[k].text = (S.map (·.text))[k] := by simp
  rw [this, List.set_getElem_self]
theorem blocksC_map (S : List Sec) : blocksC S = (S.map (·.text)).flatMap cellsB := by
  unfold blocksC
  rw [List.flatMap_map]
theorem blocksC_same {S : List Sec} {k : Nat} {x : Sec} (hk : k < S.length) (ht : x.text = (atS S k).text) : blocksC (S.set k x) = blocksC S := by rw [blocksC_map, map_set_same hk ht, blocksC_map]
section
variable {lo hi b g mb wb c : Nat} {l : Int} {P W : DataW Unit} {D : Dk} {w : World}
/-- One sector turns into x, the text stays; the maps turn as they must. -/
theorem DiskIn.setMaps (h : DiskIn w lo hi b g mb wb c l P W D) {w' : World} {k : Nat} {x : Sec} {P' W' : DataW Unit} (hk : k < D.s.length) (hx : x.Ok) (ht : x.text = (atS D.s k).text) (hz : w.heap.size ≤ w'.heap.size)
    (e1 : w'.heap[b]? = w.heap[b]?) (e2 : w'.heap[g]? = w.heap[g]?) (hp : pendMap w' mb (size P') P') (hw : wornMap w' wb (size W') W') (hpv : PendView P' (D.s.set k x)) (hwv : WornView W' (D.s.set k x)) :
    DiskIn w' lo hi b g mb wb c l P' W' { D with s := D.s.set k x } :=
  ⟨h.hb, h.hg, h.hm, h.hw, Nat.le_trans h.hi hz, h.ne, by simpa using h.cap, by simpa using h.top.of_block e1, by show RowAt w' g 74 (blocksC (D.s.set k x)); rw [blocksC_same hk ht]; exact h.row.of_block e2, hp, hw, hpv, hwv, h.lft, ⟨h.ok.1.set k hx, h.ok.2⟩⟩
end
theorem keep_of_grown {w w' : World} {mb : Nat} (hg : w.grownBy w' (some mb)) {k : Nat} (hk : k < w.heap.size) (hne : k ≠ mb) : w'.heap[k]? = w.heap[k]? := hg.block k hk (fun e => hne (by injection e))
theorem DiskIn.putPend {lo hi b g mb wb c : Nat} {l : Int} {P W : DataW Unit} {D : Dk} {w w' : World} (h : DiskIn w lo hi b g mb wb c l P W D) {k : Nat} (hk : k < D.s.length) {s : ByteArray} (hs : s.size = 64) {m : Nat}
    (hm : w'.ownsMap Try.prog 3 blockElem mb m (P.put (kI (k : Int)) (.lit (.string s.data.toList)))) (hg : w.grownBy w' (some mb)) :
    DiskIn w' lo hi b g mb wb c l (P.put (kI (k : Int)) (.lit (.string s.data.toList))) W { D with s := writeS D.s k s } ∧ Turn lo hi w w' := by
  have n1 := ownsMap_ne h.pend h.top
  have n2 := ownsMap_ne h.pend h.row
  have n3 := h.ne
  refine ⟨h.setMaps hk ⟨(h.ok.1.at hk).1, fun _ => hs⟩ rfl hg.size (keep_of_grown hg h.top.lt (Ne.symm n1)) (keep_of_grown hg h.row.lt (Ne.symm n2)) (ownsMap_size hm) (ownsMap_block h.worn (keep_of_grown hg h.worn.lt (Ne.symm n3))) (h.pv.put (x := { atS D.s k with next := s, dirty := true }) h.pend.isMap hk rfl) (h.wv.same hk rfl), Turn.grown hg (fun q e => by injection e with e; subst e; exact h.hm)⟩
theorem block_range {w : World} {g : Nat} {s : ByteArray} (h : BytesIn w g (nums s)) : w.rangeAt g 0 (cellsB s) := fun j v hv => by
  have hj : j < s.size := by rw [← cellsB_len]; exact (List.getElem?_eq_some_iff.1 hv).1
  rw [cellsB_get s hj] at hv
  rw [Nat.zero_add, h.cell j (by rw [nums_len]; exact hj)]
  exact hv
theorem load_block {w : World} {g : Nat} {s : ByteArray} (h : BytesIn w g (nums s)) (hs : s.size = 64) : (Instr.loadAt 74 (.pointer (some ⟨g, 0, none⟩))).run Try.prog w = .ok (.agg (cellsB s).toArray) w :=
  run_loadAt_mid w g 0 74 (cellsB s) _ (block_range h) Try.underlying74 rfl (by rw [cellsB_len, hs]; exact info_block)
theorem size_block (w : World) : (sizeOf 74).run Try.prog w = .ok 64 w := by kernel_rfl
theorem run_arrayAt_ok {P : Program} {arr e : TypeId} {n : Nat} (hu : P.underlying arr = some (.array n e)) (a : Option Addr) {len cap : Nat} (h : n ≤ len) (w : World) : (Instr.arrayAt arr (.slice a len cap)).run P w = .ok (.pointer a) w := by
  have : ¬ len < n := by omega
  simp [Instr.arrayAt, run_underlying hu, this, Result.andThen]
theorem load_cells64 {P : Program} {w : World} {g : Nat} {s : ByteArray} (h : BytesIn w g (nums s)) (hs : s.size = 64) : (loadCellsFrom ⟨g, 0, none⟩ 0 64 #[]).run P w = .ok (cellsB s).toArray w := by
  have := run_loadCells_list (P := P) w ⟨g, 0, none⟩ (cellsB s) (fun j v hv => by rw [Addr.add_mid]; exact block_range h j v hv)
  rw [cellsB_len, hs] at this
  exact this
set_option maxHeartbeats 2000000 in
set_option maxRecDepth 100000 in
theorem write_any (p : Value) (D : Dk) (i : Int) (s : ByteArray) (w : World) (lo hi : Nat) (h : DiskAt w lo hi p D) (hmax : s.size ≤ maxLen) (hi64 : -9223372036854775808 ≤ i ∧ i ≤ 9223372036854775807) :
    Calls Try.prog 17 #[p, .int .i64 i, .string s] w fun e w' => e = .returned (.int .i64 (writeE D i s)) ∧ DiskAt w' lo hi p (writeD D i s) ∧ Turn lo hi w w' := by
  have HC := hidep (fun W hW => check_any p D i W lo hi (hW : DiskAt W lo hi p D))
  have HS := hidep (fun W hW => step_any p D W lo hi (hW : DiskAt W lo hi p D))
  unfold maxLen at hmax
  obtain ⟨b, g, mb, wb, c, l, P, W, rfl, h⟩ := h
  have H : Hid (DiskAt w lo hi (.pointer (some ⟨b, 0, none⟩)) D) := hidep ⟨b, g, mb, wb, c, l, P, W, rfl, h⟩
  clear h
  cases hoff : D.off with
  | true =>
    have HZ := hidep (writeE_off i s hoff)
    have HK := hidep (checkZ_off i hoff)
    clear hoff
    go_enter Try.func17, Try.ntmps17
    go_wp2_with (go_at_call 46; refine (HC.out _ H.out).mono ?_; rintro e w' ⟨rfl, rfl⟩; rw [HK.out])
    go_ret
    exact ⟨ret_val (congrArg _ HZ.out.1.symm), by rw [HZ.out.2]; exact H.out, Turn.refl _ _ _⟩
  | false =>
    cases hin : D.isIn i with
    | false =>
      have HZ := hidep (writeE_out s hoff hin)
      have HK := hidep (checkZ_out hoff hin)
      clear hoff hin
      go_enter Try.func17, Try.ntmps17
      go_wp2_with (go_at_call 46; refine (HC.out _ H.out).mono ?_; rintro e w' ⟨rfl, rfl⟩; rw [HK.out])
      go_ret
      exact ⟨ret_val (congrArg _ HZ.out.1.symm), by rw [HZ.out.2]; exact H.out, Turn.refl _ _ _⟩
    | true =>
      have HK := hidep (checkZ_in hoff hin)
      by_cases hs : s.size = 64
      · by_cases hl : D.left = 0
        · have HZ := hidep (writeE_down hoff hin hs hl)
          have HE := hidep (stepE_0 hl)
          clear hoff hin hl
          go_enter Try.func17, Try.ntmps17
          go_wp2_with (first
            | (go_at_call 46; refine (HC.out _ H.out).mono ?_; rintro e w' ⟨rfl, rfl⟩; rw [HK.out])
            | (go_at_call 47; refine (HS.out _ H.out).mono ?_; rintro e w' ⟨rfl, hD, hT⟩; rw [HE.out]))
          go_ret
          exact ⟨ret_val (congrArg _ HZ.out.1.symm), by rw [HZ.out.2]; exact hD, hT⟩
        · obtain ⟨h0, hk⟩ := isIn_lt hin
          obtain ⟨k, rfl⟩ : ∃ k : Nat, i = (k : Int) := ⟨i.toNat, by omega⟩
          rw [Int.toNat_natCast] at hk
          have HZ := hidep (writeE_ok hoff hk hs hl)
          have HE := hidep (stepE_1 hl)
          have HK1 : Hid (k < (stepD D).s.length) := hidep (by rw [stepD_s]; exact hk)
          have HSZ := hidep hs
          have hsle : s.size ≤ 64 := Nat.le_of_eq hs
          have hsge : 64 ≤ s.size := Nat.le_of_eq hs.symm
          clear hs
          clear hoff hin hl h0
          go_enter Try.func17, Try.ntmps17
          go_upto_region 9 with (first
            | (go_at_call 46; refine (HC.out _ H.out).mono ?_; rintro e w' ⟨rfl, rfl⟩; rw [HK.out])
            | (go_at_call 47; refine (HS.out _ H.out).mono ?_; rintro e w1 ⟨rfl, hD, hT⟩; rw [HE.out]))
          obtain ⟨b1, g1, mb, wb, c, l, P, W, hbb, h1⟩ := hD
          obtain rfl := ptr_inj hbb
          have c1 := h1.c1
          have hbl := h1.top.lt
          have H1 := hidep h1
          have HT := hidep hT
          have hmbl := h1.pend.lt
          have hps := pend_size h1.pend h1.pv
          have hn4 := h1.ok.1.2.1
          have hown := hidep h1.pend
          have hps2 : size P ≤ 4096 := by omega
          obtain ⟨cc, w2, hrun, hcc, hb2, hn2, hz2⟩ := run_bytes_new (P := Try.prog) Try.underlying9 Try.underlying72 Try.underlying5 w1.drew s
          have hrun2 : (convert 9 72 (.string s)).run Try.prog w1.drew = .ok (.slice (some ⟨w1.heap.size, 0, none⟩) s.size cc) w2 := hrun
          have hn3 : BytesIn w2 w1.heap.size (nums s) := hn2
          obtain ⟨N, hN⟩ : ∃ N, N = 64 := ⟨_, rfl⟩
          have hsz74 : ∀ w, (sizeOf 74).run Try.prog w = .ok N w := by intro w; rw [hN]; exact size_block w
          have hld : (loadCellsFrom ⟨w1.heap.size, 0, none⟩ 0 N #[]).run Try.prog w2 = .ok (cellsB s).toArray w2 := by rw [hN]; exact load_cells64 hn3 HSZ.out
          clear hN
          have hb2 : Below w1.heap.size w1 w2 := ⟨hb2.os, hb2.tape, hb2.output, hb2.size, hb2.block⟩
          have hT12 : Turn hi hi w1 w2 := Turn.of_below hb2
          have harr := run_arrayAt_ok (P := Try.prog) Try.underlying74 (some ⟨w1.heap.size, 0, none⟩) (len := s.size) (cap := cc) hsge w2
          have h2 := h1.keep hT12 (.inl (Nat.le_refl _))
          have c1b := h2.c1
          obtain ⟨w3, hr3, ho3, hg3⟩ := h2.pend.update (P := Try.prog) keyedInt Try.underlying68 (by unfold maxLen; omega) (keyI (i64ok_mk hi64)) (blockElem_mk HSZ.out)
          have hF := h2.putPend HK1.out HSZ.out ho3 hg3
          have c1c := hF.1.c1
          have HF := hidep hF
          have HT2 : Hid (Turn lo hi w1 w2) := hidep (Turn.of_below hb2)
          clear hF h1 h2 hT hbb HC HS HK HE hk hps hn4 hown hps2 hT12 hn2 hn3 hz2 hrun ho3 hg3 hb2 hmbl hbl hi64
          generalize cellsB s = C at *
          go_region
          go_wp2
          go_ret
          refine ⟨ret_val (congrArg _ HZ.out.1.symm), ?_, HT.out.trans (HT2.out.trans HF.out.2)⟩
          rw [HZ.out.2]
          have e := stepD_s D
          exact ⟨b, g1, mb, wb, c, l, _, W, rfl, by rw [← e]; exact HF.out.1⟩
      · have HZ := hidep (writeE_size (i := i) hoff hs)
        clear hoff hin
        have hs1 : s.size < 64 ∨ 64 < s.size := by omega
        clear hs
        rcases hs1 with hs1 | hs1
        all_goals
          go_enter Try.func17, Try.ntmps17
          go_wp2_with (go_at_call 46; refine (HC.out _ H.out).mono ?_; rintro e w' ⟨rfl, rfl⟩; rw [HK.out])
          go_ret
          exact ⟨ret_val (congrArg _ HZ.out.1.symm), by rw [HZ.out.2]; exact H.out, Turn.refl _ _ _⟩
end Go.Proofs.Ytmgogmjkoealoaa
