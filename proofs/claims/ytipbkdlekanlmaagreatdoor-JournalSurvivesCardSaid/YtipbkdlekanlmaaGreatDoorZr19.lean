/- Words: a string's bytes in a row of their own. Contract of the reference's disk: Rot. -/
import Derived.Test.YtipbkdlekanlmaaGreatDoorZr18
import Derived.Laws.IdiomStrings
import Derived.Laws.BitsAllLaws
import Derived.OneCell
import Derived.Deep.WholeRow
namespace Go.Proofs.YtipbkdlekanlmaaGreatDoor
open Go.RowKit Go.Lab Go.Disk
/-- Block g is a row that begins with the bytes of s; they may be written. -/
structure BytesIn (w : World) (g : Nat) (xs : List Int) : Prop where
  lt : g < w.heap.size
  cell : ∀ j, j < xs.length → w.cell? ⟨g, j, none⟩ = some (.int .u8 (xs.getD j 0))
  free : ∀ j, j < xs.length → w.frozen? ⟨g, j, none⟩ = false
theorem nums_getD (s : ByteArray) (j : Nat) : (nums s).getD j 0 = ((s.data.toList.getD j 0).toNat : Int) := by
  unfold nums
  rw [List.getD_eq_getElem?_getD, List.getD_eq_getElem?_getD, List.getElem?_map]
  cases s.data.toList[j]? <;> rfl
theorem bytesRow_get (s : ByteArray) (cap j : Nat) (hj : j < s.size) : (bytesRow s cap)[j]? = some (.int .u8 ((nums s).getD j 0)) := by
  rw [bytesRow_at s cap j hj, nums_getD]
  have : s.data.toList[j]? = some s.data[j] := by rw [Array.getElem?_toList]; exact Array.getElem?_eq_getElem hj
  rw [List.getD_eq_getElem?_getD, this]; rfl
theorem bytesRow_size (s : ByteArray) (cap : Nat) : s.size ≤ (bytesRow s cap).size := by
  unfold bytesRow
  rw [Array.size_append, Array.size_map]
  exact Nat.le_add_right _ _
/-- '[]byte(s)'. -/
theorem run_bytes_new {P : Program} {ts tb tu : TypeId} (h1 : P.underlying ts = some .string) (h2 : P.underlying tb = some (.slice tu)) (h3 : P.underlying tu = some (.int .u8)) (w : World) (s : ByteArray) : ∃ c w', (convert ts tb (.string s)).run P w = .ok (.slice (some ⟨w.heap.size, 0, none⟩) s.size c) w' ∧ s.size ≤ c ∧ Below w.heap.size w w' ∧ BytesIn w' w.heap.size (nums s) ∧ w'.heap.size = w.heap.size + 1 := by
  refine ⟨_, _, run_bytes_of_string w ts tb tu s h1 h2 h3, grownCap_ge _ _ _ _, ?_, ?_, ?_⟩
  · exact (Below.refl _ _).drew.alloc (Nat.le_refl _) _
  · refine ⟨by simp, fun j hj => ?_, fun j hj => ?_⟩
    · rw [nums_len] at hj
      have := World.cell?_alloc_mark w.drew (bytesRow s (grownCap w s.size 0 tu)) tu ((bytesRow s (grownCap w s.size 0 tu)).size, (bytesRow s (grownCap w s.size 0 tu)).size + 1) j
      rw [bytesRow_get s _ j hj] at this
      exact this
    · rw [nums_len] at hj
      have h2 := bytesRow_size s (grownCap w s.size 0 tu)
      have := World.frozen?_alloc_mark w.drew (bytesRow s (grownCap w s.size 0 tu)) tu (bytesRow s (grownCap w s.size 0 tu)).size ((bytesRow s (grownCap w s.size 0 tu)).size + 1) j
      rw [decide_eq_false (by omega)] at this
      exact this
  · simp
/-- 'string(b)' of such a row. -/
theorem run_str_of {w : World} {g : Nat} {xs : List Int} (h : BytesIn w g xs) (cap n : Nat) (hn : xs.length = n) : (convert 81 9 (.slice (some ⟨g, 0, none⟩) n cap)).run Tryz.prog w = .ok (.string (strOfNums xs)) w :=
  run_convert_bytes_arg w 81 5 Tryz.underlying81 Tryz.underlying5 g 0 n cap xs hn (fun i hi => by rw [Nat.zero_add]; exact h.cell i (by omega)) 9 Tryz.underlying9
theorem BytesIn.drew {w : World} {g : Nat} {xs : List Int} (h : BytesIn w g xs) : BytesIn w.drew g xs := ⟨h.lt, h.cell, h.free⟩
theorem BytesIn.set {w : World} {g : Nat} {xs : List Int} (h : BytesIn w g xs) {i : Nat} (hi : i < xs.length) (y : Int) : BytesIn (w.setCell ⟨g, i, none⟩ (.int .u8 y)) g (xs.set i y) := by
  refine ⟨by simp only [World.setCell, Array.size_modify]; exact h.lt, fun j hj => ?_, fun j hj => ?_⟩
  · rw [List.length_set] at hj
    by_cases e : j = i
    · subst e
      rw [World.cell?_setCell_same _ _ _ (h.cell j hj)]
      simp [hj]
    · rw [World.cell?_setCell_other _ _ _ _ (by intro q; injection q with _ q _; exact e q.symm), h.cell j hj]
      congr 2
      rw [List.getD_eq_getElem?_getD, List.getD_eq_getElem?_getD, List.getElem?_set_ne (fun q => e q.symm)]
  · rw [List.length_set] at hj
    rw [World.frozen?_setCell]
    exact h.free j hj
theorem wpList_conv_new {P : Program} {ts tb tu : TypeId} (h1 : P.underlying ts = some .string) (h2 : P.underlying tb = some (.slice tu)) (h3 : P.underlying tu = some (.int .u8)) (w : World) {ops : Array Oper} {rest : List Oper} {o : Oper} {a : Act} {Q : Exit → Act → World → Prop} (hgd : o.guard = none) (x : Operand) (ho : o.op = .convert ts tb x) (s : ByteArray) (hx : a.eval x = .string s)
    (h : ∀ c w', s.size ≤ c → Below w.heap.size w w' → BytesIn w' w.heap.size (nums s) → w'.heap.size = w.heap.size + 1 → wpList P ops Q rest (a.put o.dst (.slice (some ⟨w.heap.size, 0, none⟩) s.size c)) w') : wpList P ops Q (o :: rest) a w := by
  obtain ⟨c, w', hrun, g1, g2, g3, g4⟩ := run_bytes_new h1 h2 h3 w s
  refine wpList_plain hgd fun K hK => ?_
  unfold Oper.wp execOp
  simp only [ho, hx, hrun, Sem.run_bind, Sem.run_pure, Result.andThen_ok]
  exact hK _ _ (h c w' g1 g2 g3 g4)
theorem rotB_nums {s : ByteArray} {m : Nat} {y : Int} (hy : y = ((rotN (s.data.toList.getD (m / 8) 0).toNat (m % 8) : Nat) : Int)) : strOfNums ((nums s).set (m / 8) y) = rotB s m := by
  unfold strOfNums rotB nums
  rw [List.map_set, List.map_map]
  have : (fun n : Int => UInt8.ofNat n.toNat) ∘ (fun b : UInt8 => (b.toNat : Int)) = id := by funext b; simp
  rw [this, List.map_id, hy, Int.toNat_natCast]
theorem xor_pow (xb m : Nat) (h : xb < 256) : bits .xor .u8 (xb : Int) (2 ^ (m % 8) % 256) = ((rotN xb (m % 8) : Nat) : Int) := by
  have h2 : 2 ^ (m % 8) < 256 := Nat.pow_lt_pow_right (by omega) (by omega : m % 8 < 8)
  have e : ((2 : Int) ^ (m % 8) % 256) = ((2 ^ (m % 8) : Nat) : Int) := by
    have e0 : (2 : Int) ^ (m % 8) = ((2 ^ (m % 8) : Nat) : Int) := (Int.natCast_pow 2 (m % 8)).symm
    have key : ∀ q : Nat, q < 256 → ((q : Int) % 256) = (q : Int) := fun q hq => by omega
    rw [e0]
    exact key _ h2
  rw [e, u8_xor_nat xb _ h h2]
  rfl
theorem rotOk_cases {D : Dk} {i bit : Int} (h : rotOk D i bit = false) : D.isIn i = false ∨ (D.isIn i = true ∧ bit < 0) ∨ (D.isIn i = true ∧ 0 ≤ bit ∧ 511 < bit) := by
  unfold rotOk at h
  cases hi : D.isIn i
  · exact .inl rfl
  · rw [hi] at h
    simp only [Bool.true_and, Bool.and_eq_false_iff, decide_eq_false_iff_not] at h
    right
    rcases h with h | h
    · exact .inl ⟨rfl, by omega⟩
    · by_cases h0 : bit < 0
      · exact .inl ⟨rfl, h0⟩
      · exact .inr ⟨rfl, by omega, by omega⟩
theorem rotOk_true {D : Dk} {i bit : Int} (h : rotOk D i bit = true) : D.isIn i = true ∧ 0 ≤ bit ∧ bit ≤ 511 := by
  unfold rotOk at h
  simp only [Bool.and_eq_true, decide_eq_true_eq] at h
  exact ⟨h.1, h.2.1, h.2.2⟩
set_option maxHeartbeats 1000000 in
set_option maxRecDepth 100000 in
theorem rrot_any (p : Value) (D : Dk) (i bit : Int) (w : World) (lo hi : Nat) (h : RDiskAt w lo hi p D) :
    Calls Tryz.prog 33 #[p, .int .i64 i, .int .i64 bit] w fun e w' => e = .returned (.int .i64 (if rotOk D i bit = true then 0 else 1)) ∧ RDiskAt w' lo hi p (rotD D i bit) ∧ Turn lo hi w w' := by
  have HI := hidep (fun W hW => is_any p D i W lo hi (hW : RDiskAt W lo hi p D))
  obtain ⟨b, g, c, rfl, h⟩ := h
  have H : Hid (RDiskAt w lo hi (.pointer (some ⟨b, 0, none⟩)) D) := hidep ⟨b, g, c, rfl, h⟩
  cases hr : rotOk D i bit with
  | false =>
    have HW : Hid (rotD D i bit = D) := hidep (by unfold rotD; rw [if_neg (by rw [hr]; simp)])
    have hc := rotOk_cases hr
    clear hr h
    rcases hc with hin | ⟨hin, h1⟩ | ⟨hin, h1, h2⟩
    all_goals
      have HN := hidep hin
      clear hin
      go_enter Tryz.func33, Tryz.ntmps33
      go_wp2_with (go_at_call 45; refine (HI.out _ H.out).mono ?_; rintro e w' ⟨rfl, rfl⟩; rw [HN.out])
      go_ret
      exact ⟨rfl, by rw [HW.out]; exact H.out, Turn.refl _ _ _⟩
  | true =>
    have HW : Hid (rotD D i bit = { D with s := rotS D.s i.toNat bit.toNat }) := hidep (by unfold rotD; rw [if_pos hr])
    obtain ⟨hin, h1, h2⟩ := rotOk_true hr
    have HN := hidep hin
    obtain ⟨h0, hk⟩ := isIn_lt hin
    obtain ⟨k, rfl⟩ : ∃ k : Nat, i = (k : Int) := ⟨i.toNat, by omega⟩
    obtain ⟨m, rfl⟩ : ∃ m : Nat, bit = (m : Int) := ⟨bit.toNat, by omega⟩
    rw [Int.toNat_natCast] at hk HW
    rw [Int.toNat_natCast] at HW
    have c0 := h.c0
    obtain ⟨d0, d1, d2, d3⟩ := h.at hk
    have hs := (h.ok.1.at hk).1
    have hmx := h.ok.1.2.1
    have hbl := h.top.lt
    have hgl := h.row.lt
    have f0 := h.frS (k * 4)
    clear hin h0 d1 d2 d3 hr
    have HX := hidep h
    have HK := hidep hk
    clear h
    generalize hx : (atS D.s k).text = x at d0 hs
    have HXX := hidep hx
    have hxs : 64 ≤ x.size := by omega
    have hxs2 : x.size ≤ 64 := by omega
    clear hx hs
    generalize D.s.length = n at c0 hk hmx
    go_enter Tryz.func33, Tryz.ntmps33
    go_upto_region 4 with (first
      | (go_at_call 45; refine (HI.out _ H.out).mono ?_; rintro e w' ⟨rfl, rfl⟩; rw [HN.out])
      | (refine wpList_conv_new (o := ⟨some 28, _, _, _, _, _⟩) Tryz.underlying9 Tryz.underlying81 Tryz.underlying5 _ rfl (.tmp 27) rfl x rfl ?_; intro c1 w1 hc1 hb1 hn1 hz1)
      | fail)
    have hm8 : m / 8 < (nums x).length := by rw [nums_len]; omega
    have e1 := hn1.cell (m / 8) hm8
    have e2 := hn1.free (m / 8) hm8
    have HB := hidep hb1
    have HN1 := hidep hn1
    have hz2 : w.heap.size < w1.heap.size := by omega
    have hc2 : w1.cell? ⟨b, 0, none⟩ = some (.slice (some ⟨g, 0, none⟩) n c) := (hb1.cell (p := ⟨b, 0, none⟩) hbl).trans c0
    have hd2 : w1.cell? ⟨g, k * 4, none⟩ = some (.string x) := (hb1.cell (p := ⟨g, k * 4, none⟩) hgl).trans d0
    have hf2 : w1.frozen? ⟨g, k * 4, none⟩ = false := (hb1.frozen (p := ⟨g, k * 4, none⟩) hgl).trans f0
    have HT0 : Hid (∀ y : Int, Turn w.heap.size (w.heap.size + 1) w (w1.setCell ⟨w.heap.size, m / 8, none⟩ (.int .u8 y))) := hidep (fun y => (Turn.of_below hb1).trans (Turn.setCell (a := ⟨w.heap.size, m / 8, none⟩) (Nat.le_refl w.heap.size) (Nat.lt_succ_self w.heap.size) (.int .u8 y)))
    have HIG := hidep HX.out.hi
    clear hn1 hb1 hz1 c0 d0 f0
    generalize hg7 : w.heap.size = g7 at *
    have HW7 := hidep hg7
    clear hg7
    rw [nums_getD] at e1
    generalize hxb : (x.data.toList.getD (m / 8) 0).toNat = xb at *
    have hxb2 : xb < 256 := by rw [← hxb]; exact UInt8.toNat_lt _
    clear hm8
    have q1 : (m : Int) / 8 < 64 := by omega
    go_wp2
    go_region
    go_upto_region 5 with (fail)
    generalize hy : bits .xor .u8 (xb : Int) (2 ^ (m % 8) % 256) = y
    have HY := hidep hy
    have HBX := hidep hxb
    clear hy hxb
    have hnl : m / 8 < (nums x).length := by rw [nums_len]; omega
    have HR := hidep ((HN1.out.set hnl y).drew)
    have hcv := run_str_of HR.out.drew c1 x.size (by rw [List.length_set, nums_len])
    clear hnl
    generalize hS : strOfNums ((nums x).set (m / 8) y) = s2 at hcv
    have HS2 := hidep hS
    clear hS
    have n1 : b ≠ g7 := by omega
    have n2 : g ≠ g7 := by omega
    have hc3 : (w1.setCell ⟨g7, m / 8, none⟩ (.int .u8 y)).cell? ⟨b, 0, none⟩ = some (.slice (some ⟨g, 0, none⟩) n c) := (World.cell?_setCell_other _ _ _ _ (by intro q; injection q with q _ _; omega)).trans hc2
    have hd3 : (w1.setCell ⟨g7, m / 8, none⟩ (.int .u8 y)).cell? ⟨g, k * 4, none⟩ = some (.string x) := (World.cell?_setCell_other _ _ _ _ (by intro q; injection q with q _ _; omega)).trans hd2
    have hf3 : (w1.setCell ⟨g7, m / 8, none⟩ (.int .u8 y)).frozen? ⟨g, k * 4, none⟩ = false := by rw [World.frozen?_setCell]; exact hf2
    have HT := hidep (HT0.out y)
    clear HT0
    clear hc2 hd2 hf2 e1 e2
    generalize w1.setCell ⟨g7, m / 8, none⟩ (.int .u8 y) = w2 at *
    have f2 := hf3
    go_region
    go_wp2
    go_ret
    have hz := HX.out.keep HT.out (.inl HIG.out)
    have hk2 := HK.out
    have hrow := hz.row.setCell (o := k * 4 + 0) (by rw [secsC_len]; omega) (.string s2)
    have e : s2 = rotB x m := by
      rw [← HS2.out]
      exact rotB_nums (by rw [HBX.out, ← HY.out]; exact xor_pow xb m hxb2)
    rw [secs_set hk2 0 _ { atS D.s k with text := s2 } (by omega) rfl, Nat.add_zero] at hrow
    have hfin := hz.row_set (Turn.setCell (a := ⟨g, k * 4, none⟩) (Nat.le_refl g) (Nat.lt_succ_self g) _) hrow ⟨by show s2.size = 64; rw [e, rotB_size]; omega, (hz.ok.1.at hk2).2⟩ (fun q => hz.clean (atS D.s k) (by rw [atS_get hk2]; exact List.getElem_mem hk2) q)
    have hT1 : Turn lo hi w (w2.setCell ⟨g, k * 4, none⟩ (.string s2)) := (by
      have q1 : Turn lo hi w2 (w2.setCell ⟨g, k * 4, none⟩ (.string s2)) := Turn.setCell (a := ⟨g, k * 4, none⟩) hz.hg.1 hz.hg.2 _
      have q2 : Turn lo hi w w2 := ⟨HT.out.os, HT.out.tape, HT.out.output, HT.out.size, fun j hj _ => HT.out.block j hj (by have := HW7.out; omega)⟩
      exact q2.trans q1)
    refine ⟨rfl, ?_, hT1.trans (Turn.drewN 2)⟩
    rw [HW.out]
    refine ⟨b, g, c, rfl, ?_⟩
    have hfin2 := hfin.keep (lo' := hi) (hi' := hi) (Turn.drewN 2) (.inl (Nat.le_refl _))
    rw [show rotS D.s k m = D.s.set k { atS D.s k with text := s2 } by unfold rotS; rw [e, HXX.out]]
    exact hfin2
end Go.Proofs.YtipbkdlekanlmaaGreatDoor
/- Contracts of the reference: Clone, New, and the text of an operation. -/
namespace Go.Proofs.YtipbkdlekanlmaaGreatDoor
open Go.RowKit Go.Lab Go.Disk
theorem RowAt.rd {w : World} {g : Nat} {t : TypeId} {cs : List Value} (h : RowAt w g t cs) {n k c : Nat} (hl : cs.length = n * k) (hc : n ≤ c) (hm : c ≤ maxLen) : Rd w (· = t) k (.slice (some ⟨g, 0, none⟩) n c) n cs := by
  obtain ⟨cur, hb, hcur⟩ := h
  refine ⟨hl, some ⟨g, 0, none⟩, c, rfl, hc, hm, (fun e => by cases e), fun ad e _ => ?_⟩
  injection e with e
  subst e
  exact ⟨rfl, cur, t, (0, 0), rfl, hb, fun j u hu => by rw [Nat.zero_add]; exact hcur j u hu⟩
theorem secsC_one (S : List Sec) : ∀ u ∈ secsC S, u.oneCell' = true := by
  intro u hu
  obtain ⟨x, _, hx⟩ := List.mem_flatMap.1 hu
  simp [secC] at hx
  rcases hx with rfl | rfl | rfl | rfl <;> rfl
theorem slSecs : SlT Tryz.prog 78 83 (.agg #[.string ByteArray.empty, .string ByteArray.empty, .bool false, .bool false]) 4 40 := ⟨by kernel_rfl, by kernel_rfl, rfl, by decide⟩
theorem fresh_secs (w : World) : (w.alloc (.cells #[] 83)).ownsRow w.heap.size 83 4 (.slice (some ⟨w.heap.size, 0, none⟩) 0 0) 0 [] := World.ownsRow_lit w #[] 0 (Nat.le_refl _) (by decide) rfl
theorem RowAt.new (w : World) (cs : Array Value) (t : TypeId) : RowAt (w.alloc (.cells cs t)) w.heap.size t cs.toList := ⟨cs, heap_alloc_new w _, fun j u hu => by simpa using hu⟩
/-- A disk of the reference out of a row and a new block. -/
theorem RDiskIn.make {w w1 : World} {D : Dk} {g c : Nat} (hb : Below w.heap.size w w1) (hg : w.heap.size ≤ g) (hr : RowAt w1 g 83 (secsC D.s)) (hc : D.s.length ≤ c ∧ c ≤ maxLen) (hok : D.Ok) (hcl : ∀ x ∈ D.s, x.dirty = false → x.next = ByteArray.empty) :
    RDiskIn (w1.alloc (.cells #[.slice (some ⟨g, 0, none⟩) D.s.length c, .bool D.off, .int .i64 D.left] 80)) w.heap.size (w1.heap.size + 1) w1.heap.size g c D := by
  have hz := hb.size
  have hgl := hr.lt
  exact ⟨by omega, by omega, by simp, hc, RowAt.new w1 _ _, hr.of_block (heap_alloc_old _ _ hgl), hok, hcl⟩
def textF : Nat → ByteArray → ByteArray
  | 0, s => s
  | f + 1, s => if 0 < s.size ∧ s.size < 64 then textF f (s ++ s.extract (s.size - 1) s.size) else s
def textZ (s : ByteArray) : ByteArray := textF 64 s
theorem textF_done (f : Nat) (s : ByteArray) (h : ¬ (0 < s.size ∧ s.size < 64)) : textF f s = s := by
  cases f with
  | zero => rfl
  | succ f => rw [textF, if_neg h]
theorem textF_le : ∀ (f : Nat) (s : ByteArray), s.size ≤ maxLen → (textF f s).size ≤ maxLen
  | 0, s, h => h
  | f + 1, s, h => by
    rw [textF]
    split
    · refine textF_le f _ ?_
      rw [ByteArray.size_append, extract_size]
      unfold maxLen
      omega
    · exact h
theorem textZ_le {s : ByteArray} (h : s.size ≤ maxLen) : (textZ s).size ≤ maxLen := textF_le 64 s h
end Go.Proofs.YtipbkdlekanlmaaGreatDoor
/- Contract of the reference: New. -/
namespace Go.Proofs.YtipbkdlekanlmaaGreatDoor
open Go.RowKit Go.Lab Go.Disk
def zrow : Array Value := madeCells #[.int .u8 0] 64
theorem mk_bytesD (W : World) : (Instr.makeSlice 81 (.int .i64 64) (.int .i64 64)).run Tryz.prog W = .ok (.slice (some ⟨W.heap.size, 0, none⟩) 64 64) (W.alloc (.cells zrow 5)) :=
  run_make_row' 81 5 (.int .u8 0) 1 Tryz.underlying81 (by kernel_rfl) rfl .i64 .i64 64 (by omega) (by omega) W
theorem zrow_list : zrow.toList = List.replicate 64 (.int .u8 0) := toList_madeCells_one _ _
theorem zrow_get (j : Nat) (hj : j < 64) : zrow[j]? = some (.int .u8 0) := by
  rw [← Array.getElem?_toList, zrow_list, List.getElem?_replicate, if_pos hj]
theorem zrow_nums : nums zeros = List.replicate 64 0 := by decide
theorem getD_rep (k j : Nat) : (List.replicate k (0 : Int)).getD j 0 = 0 := by
  rw [List.getD_eq_getElem?_getD, List.getElem?_replicate]
  split <;> rfl
theorem zrow_in {W W' : World} (hb : W'.heap[W.heap.size]? = some (.cells zrow 5 (0, 0))) : BytesIn W' W.heap.size (nums zeros) := by
  refine ⟨lt_of_block hb, fun j hj => ?_, fun j _ => by simp [World.frozen?, hb]⟩
  rw [zrow_nums] at hj ⊢
  have hj2 : j < 64 := by simpa using hj
  simp only [World.cell?, hb]
  rw [getD_rep]
  simpa using zrow_get j hj2
theorem cv_zrow (W W' : World) (hb : W'.heap[W.heap.size]? = some (.cells zrow 5 (0, 0))) : (convert 81 9 (.slice (some ⟨W.heap.size, 0, none⟩) 64 64)).run Tryz.prog W' = .ok (.string zeros) W' := by
  have := run_str_of (zrow_in hb) 64 64 (by rw [nums_len]; exact zeros_size)
  rw [str_nums] at this
  exact this
theorem three_cell {w : World} {b : Nat} {x y z : Value} {t : TypeId} (h : w.heap[b]? = some (.cells #[x, y, z] t (0, 0))) :
    w.cell? ⟨b, 0, none⟩ = some x ∧ w.cell? ⟨b, 1, none⟩ = some y ∧ w.cell? ⟨b, 2, none⟩ = some z := by simp [World.cell?, h]
theorem three_free {w : World} {b o : Nat} {x y z : Value} {t : TypeId} (h : w.heap[b]? = some (.cells #[x, y, z] t (0, 0))) : w.frozen? ⟨b, o, none⟩ = false := by simp [World.frozen?, h]
theorem three_setCell0 {w : World} {b : Nat} {x y z u : Value} {t : TypeId} (h : w.heap[b]? = some (.cells #[x, y, z] t (0, 0))) : (w.setCell ⟨b, 0, none⟩ u).heap[b]? = some (.cells #[u, y, z] t (0, 0)) := by
  rw [heap_setCell_same w b 0 _ t u h]
  rfl
theorem secsC_rep (j : Nat) : secsC (List.replicate (j + 1) secZ) = secsC (List.replicate j secZ) ++ [.string zeros, .string ⟨#[]⟩, .bool false, .bool false] := by
  rw [List.replicate_succ']
  unfold secsC
  rw [List.flatMap_append]
  rfl
theorem new_step {w w2 : World} {v u : Value} {j : Nat} (hB : w2.heap[w.heap.size]? = some (.cells #[v, .bool false, .int .i64 (-1)] 80 (0, 0)))
    (ho : w2.ownsRow (w.heap.size + 1) 83 4 u (j + 1) (secsC (List.replicate j secZ) ++ [.string zeros, .string ⟨#[]⟩, .bool false, .bool false])) (hb : Below w.heap.size w w2) (hne : u.ownBlock ≠ some w.heap.size) :
    (w2.setCell ⟨w.heap.size, 0, none⟩ u).heap[w.heap.size]? = some (.cells #[u, .bool false, .int .i64 (-1)] 80 (0, 0)) ∧ (w2.setCell ⟨w.heap.size, 0, none⟩ u).ownsRow (w.heap.size + 1) 83 4 u (j + 1) (secsC (List.replicate (j + 1) secZ)) ∧ Below w.heap.size w (w2.setCell ⟨w.heap.size, 0, none⟩ u) := by
  refine ⟨three_setCell0 hB, ?_, hb.setCell (Nat.le_refl _) _⟩
  rw [secsC_rep]
  exact ownsRow_setCell_other ho hne u
set_option maxHeartbeats 2000000 in
set_option maxRecDepth 100000 in
theorem rnew_any (n : Nat) (w : World) (h1 : 1 ≤ n) (h2 : n ≤ 4096) :
    Calls Tryz.prog 9 #[.int .i64 n] w fun e w' => ∃ p, e = .returned (.tuple #[p, .int .i64 0]) ∧ RDiskAt w' w.heap.size w'.heap.size p (newD n) ∧ Below w.heap.size w w' := by
  go_enter Tryz.func9, Tryz.ntmps9
  go_wp2
  go_loopw [5] (fun i wr => ∃ (j : Nat) (v : Value), j ≤ n ∧ i = .int .i64 j ∧ wr.heap[w.heap.size]? = some (.cells #[v, .bool false, .int .i64 (-1)] 80 (0, 0)) ∧ wr.ownsRow (w.heap.size + 1) 83 4 v j (secsC (List.replicate j secZ)) ∧ Hid (Below w.heap.size w wr)) (fun i _ => n - (RowKit.intOf i).toNat)
  case atStart => exact ⟨0, .slice none 0 0, Nat.zero_le _, rfl, heap_alloc_new _ _, World.ownsRow_nil _ _ _ _, hidep ((Below.refl _ _).alloc (Nat.le_refl _) _)⟩
  case round =>
    obtain ⟨j, v, hj, rfl, hblk, hown, HB⟩ := hrel
    by_cases hlt : j < n
    · have hz := HB.out.size
      have hbl := lt_of_block hblk
      have HOW := hidep hown
      obtain ⟨av, cv, rfl, hcv, hcv2⟩ := (Rd.of_own hown).form
      unfold maxLen at hcv2
      clear hown
      have cb := (three_cell hblk).1
      have fb := three_free (o := 0) hblk
      have HBL := hidep hblk
      clear hblk
      go_upto_region 7 with (fail)
      have hmk := mk_bytesD
      have hcv := cv_zrow wr (wr.alloc (.cells zrow 5)).drew (heap_alloc_new wr (.cells zrow 5))
      have hfr : Rd ((wr.alloc (.cells zrow 5)).alloc (.cells #[.string zeros, .string ⟨#[]⟩, .bool false, .bool false] 83)).drew (· = 83) 4 (.slice (some ⟨wr.heap.size + 1, 0, none⟩) 1 1) 1 [.string zeros, .string ⟨#[]⟩, .bool false, .bool false] := by
        have := Rd.fresh (wr.alloc (.cells zrow 5)) #[.string zeros, .string ⟨#[]⟩, .bool false, .bool false] 83 4 1 rfl (by decide)
        rw [World.size_alloc] at this
        exact this
      have how2 : ((wr.alloc (.cells zrow 5)).alloc (.cells #[.string zeros, .string ⟨#[]⟩, .bool false, .bool false] 83)).drew.ownsRow (w.heap.size + 1) 83 4 (.slice av j cv) j (secsC (List.replicate j secZ)) := (HOW.out.alloc _).alloc _
      have hbb : Below wr.heap.size wr ((wr.alloc (.cells zrow 5)).alloc (.cells #[.string zeros, .string ⟨#[]⟩, .bool false, .bool false] 83)).drew := (((Below.refl _ _).alloc (Nat.le_refl _) _).alloc (by simp) _).drew
      go_region_law (first
        | (refine step_append_rd _ (by rfl) (.tmp 23) (.tmp 27) (by rfl) slSecs (w.heap.size + 1) (.slice av j cv) j _ (by rfl) (by exact how2) _ _ _ _ (by rfl) (by exact hfr) (by intro u hu; simp at hu; rcases hu with rfl | rfl | rfl <;> rfl) (by unfold maxLen; omega) (by omega) (by simp; omega) ?_; intro v2 w2 hown2 hgr2 hat hnl; clear hat hnl; have hB2 := (hgr2.block _ (Nat.lt_of_lt_of_le hbl hbb.size) (fun e => by have := (HOW.out.lt _ e.symm).1; omega)).trans ((hbb.block _ hbl).trans HBL.out); have cb2 := (three_cell hB2).1; have fb2 := three_free (o := 0) hB2; obtain ⟨g2, c2, rfl, hg2, hcc1, hcc2, hrow2⟩ := RowAt.of_own hown2 (by omega); dsimp only)
        | fail)
      all_goals
        have hbf : Below w.heap.size w w2 := (HB.out.trans (hbb.mono hz)).grown hgr2 (Nat.le_trans hz hbb.size) (fun g hg => by have := (HOW.out.lt g hg).1; omega)
        have hrel2 := new_step (u := .slice (some ⟨g2, 0, none⟩) (j + 1) c2) hB2 hown2 hbf (by simp [Value.ownBlock]; omega)
        clear hmk hcv hfr how2 hbb hgr2 hB2 cb2 fb2 hown2 hrow2 hbf
        have HREL := hidep hrel2
        clear hrel2
        go_wp2
        go_roundw
        case rel => exact ⟨j + 1, _, by omega, by go_num, HREL.out.1, HREL.out.2.1, hidep HREL.out.2.2⟩
        case measure => simp [RowKit.intOf]; omega
    · have hjn : j = n := by omega
      subst hjn
      obtain ⟨g2, c2, rfl, hg2, hcc1, hcc2, hrow2⟩ := RowAt.of_own hown (by omega)
      go_wp2
      go_ret2
      refine ⟨_, rfl, ⟨w.heap.size, g2, c2, rfl, ?_⟩, HB.out⟩
      have hgl := hrow2.lt
      have hbl := lt_of_block hblk
      exact ⟨by omega, by omega, Nat.le_refl _, by simp only [newD, List.length_replicate]; exact ⟨hcc1, hcc2⟩, by simp only [newD, List.length_replicate]; exact ⟨_, hblk, fun j u hu => by simpa using hu⟩, hrow2, newD_ok h1 h2, fun x hx _ => by rw [(List.mem_replicate.1 hx).2]; rfl⟩
end Go.Proofs.YtipbkdlekanlmaaGreatDoor
/- Words: a block as a variable of its own. Contract of the program's disk: Read. -/
namespace Go.Proofs.YtipbkdlekanlmaaGreatDoor
open Go.RowKit Go.Lab Go.Disk Go.Maps
section
variable {α : Type} {f : α → List Value} {c : Nat}
theorem chunkm_len : ∀ l : List α, (∀ a ∈ l, (f a).length = c) → (l.flatMap f).length = l.length * c
  | [], _ => by simp
  | a :: l, hf => by rw [List.flatMap_cons, List.length_append, hf a (by simp), chunkm_len l (fun b hb => hf b (by simp [hb])), List.length_cons, Nat.succ_mul]; omega
theorem chunkm_get : ∀ (l : List α) (_ : ∀ a ∈ l, (f a).length = c) {k j : Nat} (hk : k < l.length) (_ : j < c), (l.flatMap f)[k * c + j]? = (f l[k])[j]?
  | a :: l, hf, 0, j, _, hj => by
    rw [List.flatMap_cons, Nat.zero_mul, Nat.zero_add, List.getElem?_append_left (by rw [hf a (by simp)]; exact hj)]
    rfl
  | a :: l, hf, k + 1, j, hk, hj => by
    have ha := hf a (by simp)
    have e : (k + 1) * c + j = (f a).length + (k * c + j) := by rw [ha, Nat.succ_mul]; omega
    rw [List.flatMap_cons, e, List.getElem?_append_right (by omega), Nat.add_sub_cancel_left, chunkm_get l (fun b hb => hf b (by simp [hb])) (by simpa using hk) hj]
    rfl
theorem chunkm_spl : ∀ (l : List α) (_ : ∀ a ∈ l, (f a).length = c) (k j : Nat) (vs : List Value) (x : α) (hk : k < l.length), j + vs.length ≤ c → f x = spl (f l[k]) j vs → spl (l.flatMap f) (k * c + j) vs = (l.set k x).flatMap f
  | a :: l, hf, 0, j, vs, x, _, hj, hx => by
    simp only [List.getElem_cons_zero] at hx
    rw [List.flatMap_cons, Nat.zero_mul, Nat.zero_add, spl_append_low _ _ _ _ (by rw [hf a (by simp)]; exact hj), List.set_cons_zero, List.flatMap_cons, hx]
  | a :: l, hf, k + 1, j, vs, x, hk, hj, hx => by
    have e : (k + 1) * c + j = (f a).length + (k * c + j) := by rw [hf a (by simp), Nat.succ_mul]; omega
    rw [List.flatMap_cons, e, spl_append_high, List.set_cons_succ, List.flatMap_cons, chunkm_spl l (fun b hb => hf b (by simp [hb])) k j vs x (by simpa using hk) hj (by simpa using hx)]
end
theorem blocks_each {S : List Sec} (h : SOk S) : ∀ x ∈ S, (cellsB x.text).length = 64 := fun x hx => by rw [cellsB_len]; exact (h.2.2 x hx).1
theorem blocksC_len {S : List Sec} (h : SOk S) : (blocksC S).length = S.length * 64 := chunkm_len S (blocks_each h)
theorem blocksC_get {S : List Sec} (h : SOk S) {k j : Nat} (hk : k < S.length) (hj : j < 64) : (blocksC S)[k * 64 + j]? = some (.int .u8 ((nums (atS S k).text).getD j 0)) := by
  unfold blocksC
  rw [chunkm_get (f := fun x : Sec => cellsB x.text) S (blocks_each h) hk hj, atS_get hk]
  exact cellsB_get _ (by rw [(h.2.2 _ (List.getElem_mem hk)).1]; exact hj)
/-- A variable of a type that takes a row, made anew. -/
theorem wpList_alloc_rowD {P : Program} {t : TypeId} {Z : Array Value} (hz : ∀ w, (zeroValue t).run P w = .ok (.agg Z) w) (w : World) {ops : Array Oper} {rest : List Oper} {o : Oper} {a : Act} {Q : Exit → Act → World → Prop} (hgd : o.guard = none) (ho : o.op = .alloc t)
    (h : wpList P ops Q rest (a.put o.dst (.pointer (some ⟨w.heap.size, 0, none⟩))) (w.alloc (.cells Z t))) : wpList P ops Q (o :: rest) a w := by
  refine wpList_plain hgd fun K hK => ?_
  unfold Oper.wp execOp
  simp [ho, Instr.alloc, hz, newVar, newRow, Value.cells, Result.andThen]
  exact hK _ _ h
/-- A whole row into the block that was made last. -/
theorem wpList_store_lastD {P : Program} {t : TypeId} {c c' : Array Value} (w : World) (hi : (P.info? t).map (·.size) = some c'.size) (hsz : c.size = c'.size) (h1 : c'.all (·.oneCell') = true) {ops : Array Oper} {rest : List Oper} {o : Oper} {a : Act} {Q : Exit → Act → World → Prop} (hgd : o.guard = none) (x y : Operand) (ho : o.op = .store t x y)
    (hx : a.eval x = .pointer (some ⟨w.heap.size, 0, none⟩)) (hy : a.eval y = .agg c') (h : wpList P ops Q rest (a.put o.dst undef) (w.alloc (.cells c' t))) : wpList P ops Q (o :: rest) a (w.alloc (.cells c t)) := by
  refine wpList_plain hgd fun K hK => ?_
  unfold Oper.wp execOp
  simp only [ho, hx, hy, Sem.run_bind, Sem.run_pure, run_storeAt_new w t c c' hi hsz h1, Result.andThen_ok]
  exact hK _ _ h
theorem info_block : (Tryz.prog.info? 86).map (·.size) = some 64 := by kernel_rfl
theorem cellsB_all (s : ByteArray) : (cellsB s).toArray.all (·.oneCell') = true := all_oneCell_toArray (cellsB_one s)
theorem cellsB_size (s : ByteArray) : (cellsB s).toArray.size = s.size := by rw [List.size_toArray, cellsB_len]
theorem bytes_of_cells {w : World} {g : Nat} {s : ByteArray} {cs : Array Value} {t : TypeId} (hb : w.heap[g]? = some (.cells cs t (0, 0))) (hc : cs = (cellsB s).toArray) : BytesIn w g (nums s) := by
  subst hc
  refine ⟨lt_of_block hb, fun j hj => ?_, fun j _ => by simp [World.frozen?, hb]⟩
  rw [nums_len] at hj
  simp only [World.cell?, hb]
  simpa using cellsB_get s hj
theorem cv_block (w : World) (s : ByteArray) (hs : s.size = 64) : (convert 81 9 (.slice (some ⟨w.heap.size, 0, none⟩) 64 64)).run Tryz.prog (w.alloc (.cells (cellsB s).toArray 86)) = .ok (.string s) (w.alloc (.cells (cellsB s).toArray 86)) := by
  have := run_str_of (bytes_of_cells (heap_alloc_new w (.cells (cellsB s).toArray 86)) rfl) 64 64 (by rw [nums_len]; exact hs)
  rw [str_nums] at this
  exact this
/-- 'string(d.blocks[k][:])' -/
theorem cv_sector {w : World} {g : Nat} {S : List Sec} (hr : RowAt w g 86 (blocksC S)) (hok : SOk S) {k : Nat} (hk : k < S.length) (c : Nat) : (convert 81 9 (.slice (some ⟨g, k * 64, none⟩) 64 c)).run Tryz.prog w = .ok (.string (atS S k).text) w := by
  have hs := (hok.at hk).1
  have := run_convert_bytes_arg w 81 5 Tryz.underlying81 Tryz.underlying5 g (k * 64) 64 c (nums (atS S k).text) (by rw [nums_len]; exact hs) (fun i hi => by
    exact hr.cell (blocksC_get hok hk hi)) 9 Tryz.underlying9
  rw [str_nums] at this
  exact this
set_option maxHeartbeats 1000000 in
set_option maxRecDepth 100000 in
theorem read_any (p : Value) (D : Dk) (i : Int) (w : World) (lo hi : Nat) (h : DiskAt w lo hi p D) (hi64 : -9223372036854775808 ≤ i ∧ i ≤ 9223372036854775807) :
    Calls Tryz.prog 48 #[p, .int .i64 i] w fun e w' => e = .returned (.tuple #[.string (readZ D i).1, .int .i64 (readZ D i).2]) ∧ Below w.heap.size w w' := by
  have HC := hidep (fun W hW => check_any p D i W lo hi (hW : DiskAt W lo hi p D))
  obtain ⟨b, g, mb, wb, c, l, P, W, rfl, h⟩ := h
  have c0 := h.c0
  have c1 := h.c1
  have H : Hid (DiskAt w lo hi (.pointer (some ⟨b, 0, none⟩)) D) := hidep ⟨b, g, mb, wb, c, l, P, W, rfl, h⟩
  cases hoff : D.off with
  | true =>
    have HZ := hidep (readZ_off i hoff)
    have HK := hidep (checkZ_off i hoff)
    clear hoff h
    go_enter Tryz.func48, Tryz.ntmps48
    go_wp2_with (go_at_call 43; refine (HC.out _ H.out).mono ?_; rintro e w' ⟨rfl, rfl⟩; rw [HK.out])
    go_ret2
    exact ⟨ret_two HZ.out.symm, Below.refl _ _⟩
  | false =>
    cases hin : D.isIn i with
    | false =>
      have HZ := hidep (readZ_out hoff hin)
      have HK := hidep (checkZ_out hoff hin)
      clear hoff hin h
      go_enter Tryz.func48, Tryz.ntmps48
      go_wp2_with (go_at_call 43; refine (HC.out _ H.out).mono ?_; rintro e w' ⟨rfl, rfl⟩; rw [HK.out])
      go_ret2
      exact ⟨ret_two HZ.out.symm, Below.refl _ _⟩
    | true =>
      have HK := hidep (checkZ_in hoff hin)
      obtain ⟨h0, hk⟩ := isIn_lt hin
      obtain ⟨k, rfl⟩ : ∃ k : Nat, i = (k : Int) := ⟨i.toNat, by omega⟩
      rw [Int.toNat_natCast] at hk
      clear hin h0
      have hlook := look_pend h.pend h.pv (i64ok_mk hi64)
      have hps := pendOr_size h.ok.1 (k : Int)
      have hpa : (pendAt D.s (k : Int)).isSome = (atS D.s k).dirty := by
        unfold pendAt
        rw [Int.toNat_natCast]
        cases hd : (atS D.s k).dirty <;> simp [hk]
      have hn4 := h.ok.1.2.1
      have hbl := h.top.lt
      have hgl := h.row.lt
      rw [hpa] at hlook
      have hzb := zero_block
      cases hd : (atS D.s k).dirty with
      | true =>
        have HZ := hidep (readZ_dirty hoff hk hd)
        rw [hd] at hlook
        have hpo : pendOr D.s (k : Int) = (atS D.s k).next := by
          unfold pendOr pendAt
          rw [Int.toNat_natCast, if_pos ⟨by omega, hk, hd⟩]; rfl
        rw [hpo] at hlook hps
        have hcv := cv_block w (atS D.s k).next hps
        have hall := cellsB_all (atS D.s k).next
        have hcs := cellsB_size (atS D.s k).next
        rw [hps] at hcs
        clear hoff h hpo hpa hd hps
        have hzs : (cellsB zeros).toArray.size = 64 := (cellsB_size zeros).trans zeros_size
        generalize (cellsB (atS D.s k).next).toArray = C at *
        generalize (cellsB zeros).toArray = Z at *
        have hst := run_storeCells_new (P := Tryz.prog) w 86 Z C (by rw [hcs]; exact info_block) (by rw [hcs, hzs]) hall
        clear hzs hall
        go_enter Tryz.func48, Tryz.ntmps48
        go_upto_region 4 with (go_at_call 43; refine (HC.out _ H.out).mono ?_; rintro e w' ⟨rfl, rfl⟩; rw [HK.out])
        go_wp2_with (first
          | (refine wpList_alloc_rowD (o := ⟨some 7, _, _, _, _, _⟩) hzb _ rfl rfl ?_)
          | fail)
        go_ret2
        exact ⟨ret_two HZ.out.symm, (Below.refl _ _).alloc (Nat.le_refl _) _⟩
      | false =>
        have HZ := hidep (readZ_clean hoff hk hd)
        rw [hd] at hlook
        have hall := cellsB_all (pendOr D.s (k : Int))
        have hcs := cellsB_size (pendOr D.s (k : Int))
        rw [hps] at hcs
        have hcv := cv_sector (w := w.alloc (.cells (cellsB (pendOr D.s (k : Int))).toArray 86)) (h.row.of_block (heap_alloc_old _ _ hgl)) h.ok.1 hk 64
        have hzs : (cellsB zeros).toArray.size = 64 := (cellsB_size zeros).trans zeros_size
        clear hoff h hpa hd hps
        generalize (cellsB (pendOr D.s (k : Int))).toArray = C at *
        generalize (cellsB zeros).toArray = Z at *
        have hst := run_storeCells_new (P := Tryz.prog) w 86 Z C (by rw [hcs]; exact info_block) (by rw [hcs, hzs]) hall
        clear hzs hall
        generalize D.s.length = n at *
        go_enter Tryz.func48, Tryz.ntmps48
        go_upto_region 4 with (go_at_call 43; refine (HC.out _ H.out).mono ?_; rintro e w' ⟨rfl, rfl⟩; rw [HK.out])
        go_wp2_with (first
          | (refine wpList_alloc_rowD (o := ⟨some 7, _, _, _, _, _⟩) hzb _ rfl rfl ?_)
          | fail)
        go_ret2
        exact ⟨ret_two HZ.out.symm, (Below.refl _ _).alloc (Nat.le_refl _) _⟩
end Go.Proofs.YtipbkdlekanlmaaGreatDoor
