/- Words: a string's bytes in a row of their own. Contract of the reference's disk: Rot. -/
import Derived.Test.YtmgogmjkoealoaaDkW
import Derived.Laws.IdiomStrings
import Derived.Laws.BitsAllLaws
namespace Go.Proofs.Ytmgogmjkoealoaa
open Go.RowKit Go.Lab Go.Disk
/-- Block g is a row that begins with the bytes of s; they may be written. -/
structure BytesIn (w : World) (g : Nat) (xs : List Int) : Prop where
  lt : g < w.heap.size
  cell : ∀ j, j < xs.length → w.cell? ⟨g, j, none⟩ = some (.int .u8 (xs.getD j 0))
  free : ∀ j, j < xs.length → w.frozen? ⟨g, j, none⟩ = false
theorem nums_getD (s : ByteArray) (j : Nat) : (nums s).getD j 0 = ((s.data.toList.getD j 0).toNat : Int) := by
  unfold nums
  rw [List.getD_eq_getElem?_getD, List.getD_eq_getElem?_getD, List.getElem?_map]
  cases s.data.toList[j]? <;> rfl
theorem bytesRow_get (s : ByteArray) (cap j : Nat) (hj : j < s.size) : (bytesRow s cap)[j]? = some (.int .u8 ((nums s).getD j 0)) := by
  rw [bytesRow_at s cap j hj, nums_getD]
  have : s.data.toList[j]? = some s.data[j] := by rw [Array.getElem?_toList]; exact Array.getElem?_eq_getElem hj
  rw [List.getD_eq_getElem?_getD, this]; rfl
theorem bytesRow_size (s : ByteArray) (cap : Nat) : s.size ≤ (bytesRow s cap).size := by
  unfold bytesRow
  rw [Array.size_append, Array.size_map]
  exact Nat.le_add_right _ _
/-- '[]byte(s)'. -/
theorem run_bytes_new {P : Program} {ts tb tu : TypeId} (h1 : P.underlying ts = some .string) (h2 : P.underlying tb = some (.slice tu)) (h3 : P.underlying tu = some (.int .u8)) (w : World) (s : ByteArray) : ∃ c w', (convert ts tb (.string s)).run P w = .ok (.slice (some ⟨w.heap.size, 0, none⟩) s.size c) w' ∧ s.size ≤ c ∧ Below w.heap.size w w' ∧ BytesIn w' w.heap.size (nums s) ∧ w'.heap.size = w.heap.size + 1 := by
  refine ⟨_, _, run_bytes_of_string w ts tb tu s h1 h2 h3, grownCap_ge _ _ _ _, ?_, ?_, ?_⟩
  · exact (Below.refl _ _).drew.alloc (Nat.le_refl _) _
  · refine ⟨by simp, fun j hj => ?_, fun j hj => ?_⟩
    · rw [nums_len] at hj
      have := World.cell?_alloc_mark w.drew (bytesRow s (grownCap w s.size 0 tu)) tu ((bytesRow s (grownCap w s.size 0 tu)).size, (bytesRow s (grownCap w s.size 0 tu)).size + 1) j
      rw [bytesRow_get s _ j hj] at this
      exact this
    · rw [nums_len] at hj
      have h2 := bytesRow_size s (grownCap w s.size 0 tu)
      have := World.frozen?_alloc_mark w.drew (bytesRow s (grownCap w s.size 0 tu)) tu (bytesRow s (grownCap w s.size 0 tu)).size ((bytesRow s (grownCap w s.size 0 tu)).size + 1) j
      rw [decide_eq_false (by omega)] at this
      exact this
  · simp
/-- 'string(b)' of such a row. -/
theorem run_str_of {w : World} {g : Nat} {xs : List Int} (h : BytesIn w g xs) (cap n : Nat) (hn : xs.length = n) : (convert 72 9 (.slice (some ⟨g, 0, none⟩) n cap)).run Try.prog w = .ok (.string (strOfNums xs)) w :=
  run_convert_bytes_arg w 72 5 Try.underlying72 Try.underlying5 g 0 n cap xs hn (fun i hi => by rw [Nat.zero_add]; exact h.cell i (by omega)) 9 Try.underlying9
theorem BytesIn.drew {w : World} {g : Nat} {xs : List Int} (h : BytesIn w g xs) : BytesIn w.drew g xs := ⟨h.lt, h.cell, h.free⟩
theorem BytesIn.set {w : World} {g : Nat} {xs : List Int} (h : BytesIn w g xs) {i : Nat} (hi : i < xs.length) (y : Int) : BytesIn (w.setCell ⟨g, i, none⟩ (.int .u8 y)) g (xs.set i y) := by
  refine ⟨by simp only [World.setCell, Array.size_modify]; exact h.lt, fun j hj => ?_, fun j hj => ?_⟩
  · rw [List.length_set] at hj
    by_cases e : j = i
    · subst e
      rw [World.cell?_setCell_same _ _ _ (h.cell j hj)]
      simp [hj]
    · rw [World.cell?_setCell_other _ _ _ _ (by intro q; injection q with _ q _; exact e q.symm), h.cell j hj]
      congr 2
      rw [List.getD_eq_getElem?_getD, List.getD_eq_getElem?_getD, List.getElem?_set_ne (fun q => e q.symm)]
  · rw [List.length_set] at hj
    rw [World.frozen?_setCell]
    exact h.free j hj
theorem wpList_conv_new {P : Program} {ts tb tu : TypeId} (h1 : P.underlying ts = some .string) (h2 : P.underlying tb = some (.slice tu)) (h3 : P.underlying tu = some (.int .u8)) (w : World) {ops : Array Oper} {rest : List Oper} {o : Oper} {a : Act} {Q : Exit → Act → World → Prop} (hgd : o.guard = none) (x : Operand) (ho : o.op = .convert ts tb x) (s : ByteArray) (hx : a.eval x = .string s)
    (h : ∀ c w', s.size ≤ c → Below w.heap.size w w' → BytesIn w' w.heap.size (nums s) → w'.heap.size = w.heap.size + 1 → wpList P ops Q rest (a.put o.dst (.slice (some ⟨w.heap.size, 0, none⟩) s.size c)) w') : wpList P ops Q (o :: rest) a w := by
  obtain ⟨c, w', hrun, g1, g2, g3, g4⟩ := run_bytes_new h1 h2 h3 w s
  refine wpList_plain hgd fun K hK => ?_
  unfold Oper.wp execOp
  simp only [ho, hx, hrun, Sem.run_bind, Sem.run_pure, Result.andThen_ok]
  exact hK _ _ (h c w' g1 g2 g3 g4)
theorem rotB_nums {s : ByteArray} {m : Nat} {y : Int} (hy : y = ((rotN (s.data.toList.getD (m / 8) 0).toNat (m % 8) : Nat) : Int)) : strOfNums ((nums s).set (m / 8) y) = rotB s m := by
  unfold strOfNums rotB nums
  rw [List.map_set, List.map_map]
  have : (fun n : Int => UInt8.ofNat n.toNat) ∘ (fun b : UInt8 => (b.toNat : Int)) = id := by funext b; simp
  rw [this, List.map_id, hy, Int.toNat_natCast]
theorem xor_pow (xb m : Nat) (h : xb < 256) : bits .xor .u8 (xb : Int) (2 ^ (m % 8) % 256) = ((rotN xb (m % 8) : Nat) : Int) := by
  have h2 : 2 ^ (m % 8) < 256 := Nat.pow_lt_pow_right (by omega) (by omega : m % 8 < 8)
  have e : ((2 : Int) ^ (m % 8) % 256) = ((2 ^ (m % 8) : Nat) : Int) := by
    have e0 : (2 : Int) ^ (m % 8) = ((2 ^ (m % 8) : Nat) : Int) := (Int.natCast_pow 2 (m % 8)).symm
    have key : ∀ q : Nat, q < 256 → ((q : Int) % 256) = (q : Int) := fun q hq => by omega
    rw [e0]
    exact key _ h2
  rw [e, u8_xor_nat xb _ h h2]
  rfl
theorem rotOk_cases {D : Dk} {i bit : Int} (h : rotOk D i bit = false) : D.isIn i = false ∨ (D.isIn i = true ∧ bit < 0) ∨ (D.isIn i = true ∧ 0 ≤ bit ∧ 511 < bit) := by
  unfold rotOk at h
  cases hi : D.isIn i
  · exact .inl rfl
  · rw [hi] at h
    simp only [Bool.true_and, Bool.and_eq_false_iff, decide_eq_false_iff_not] at h
    right
    rcases h with h | h
    · exact .inl ⟨rfl, by omega⟩
    · by_cases h0 : bit < 0
      · exact .inl ⟨rfl, h0⟩
      · exact .inr ⟨rfl, by omega, by omega⟩
theorem rotOk_true {D : Dk} {i bit : Int} (h : rotOk D i bit = true) : D.isIn i = true ∧ 0 ≤ bit ∧ bit ≤ 511 := by
  unfold rotOk at h
  simp only [Bool.and_eq_true, decide_eq_true_eq] at h
  exact ⟨h.1, h.2.1, h.2.2⟩
set_option maxHeartbeats 1000000 in
set_option maxRecDepth 100000 in
theorem rrot_any (p : Value) (D : Dk) (i bit : Int) (w : World) (lo hi : Nat) (h : RDiskAt w lo hi p D) :
    Calls Try.prog 38 #[p, .int .i64 i, .int .i64 bit] w fun e w' => e = .returned (.int .i64 (if rotOk D i bit = true then 0 else 1)) ∧ RDiskAt w' lo hi p (rotD D i bit) ∧ Turn lo hi w w' := by
  have HI := hidep (fun W hW => is_any p D i W lo hi (hW : RDiskAt W lo hi p D))
  obtain ⟨b, g, c, rfl, h⟩ := h
  have H : Hid (RDiskAt w lo hi (.pointer (some ⟨b, 0, none⟩)) D) := hidep ⟨b, g, c, rfl, h⟩
  cases hr : rotOk D i bit with
  | false =>
    have HW : Hid (rotD D i bit = D) := hidep (by unfold rotD; rw [if_neg (by rw [hr]; simp)])
    have hc := rotOk_cases hr
    clear hr h
    rcases hc with hin | ⟨hin, h1⟩ | ⟨hin, h1, h2⟩
    all_goals
      have HN := hidep hin
      clear hin
      go_enter Try.func38, Try.ntmps38
      go_wp2_with (go_at_call 55; refine (HI.out _ H.out).mono ?_; rintro e w' ⟨rfl, rfl⟩; rw [HN.out])
      go_ret
      exact ⟨rfl, by rw [HW.out]; exact H.out, Turn.refl _ _ _⟩
  | true =>
    have HW : Hid (rotD D i bit = { D with s := rotS D.s i.toNat bit.toNat }) := hidep (by unfold rotD; rw [if_pos hr])
    obtain ⟨hin, h1, h2⟩ := rotOk_true hr
    have HN := hidep hin
    obtain ⟨h0, hk⟩ := isIn_lt hin
    obtain ⟨k, rfl⟩ : ∃ k : Nat, i = (k : Int) := ⟨i.toNat, by omega⟩
    obtain ⟨m, rfl⟩ : ∃ m : Nat, bit = (m : Int) := ⟨bit.toNat, by omega⟩
    rw [Int.toNat_natCast] at hk HW
    rw [Int.toNat_natCast] at HW
    have c0 := h.c0
    obtain ⟨d0, d1, d2, d3⟩ := h.at hk
    have hs := (h.ok.1.at hk).1
    have hmx := h.ok.1.2.1
    have hbl := h.top.lt
    have hgl := h.row.lt
    have f0 := h.frS (k * 4)
    clear hin h0 d1 d2 d3 hr
    have HX := hidep h
    have HK := hidep hk
    clear h
    generalize hx : (atS D.s k).text = x at d0 hs
    have HXX := hidep hx
    have hxs : 64 ≤ x.size := by omega
    have hxs2 : x.size ≤ 64 := by omega
    clear hx hs
    generalize D.s.length = n at c0 hk hmx
    go_enter Try.func38, Try.ntmps38
    go_upto_region 4 with (first
      | (go_at_call 55; refine (HI.out _ H.out).mono ?_; rintro e w' ⟨rfl, rfl⟩; rw [HN.out])
      | (refine wpList_conv_new (o := ⟨some 28, _, _, _, _, _⟩) Try.underlying9 Try.underlying72 Try.underlying5 _ rfl (.tmp 27) rfl x rfl ?_; intro c1 w1 hc1 hb1 hn1 hz1)
      | fail)
    have hm8 : m / 8 < (nums x).length := by rw [nums_len]; omega
    have e1 := hn1.cell (m / 8) hm8
    have e2 := hn1.free (m / 8) hm8
    have HB := hidep hb1
    have HN1 := hidep hn1
    have hz2 : w.heap.size < w1.heap.size := by omega
    have hc2 : w1.cell? ⟨b, 0, none⟩ = some (.slice (some ⟨g, 0, none⟩) n c) := (hb1.cell (p := ⟨b, 0, none⟩) hbl).trans c0
    have hd2 : w1.cell? ⟨g, k * 4, none⟩ = some (.string x) := (hb1.cell (p := ⟨g, k * 4, none⟩) hgl).trans d0
    have hf2 : w1.frozen? ⟨g, k * 4, none⟩ = false := (hb1.frozen (p := ⟨g, k * 4, none⟩) hgl).trans f0
    have HT0 : Hid (∀ y : Int, Turn w.heap.size (w.heap.size + 1) w (w1.setCell ⟨w.heap.size, m / 8, none⟩ (.int .u8 y))) := hidep (fun y => (Turn.of_below hb1).trans (Turn.setCell (a := ⟨w.heap.size, m / 8, none⟩) (Nat.le_refl w.heap.size) (Nat.lt_succ_self w.heap.size) (.int .u8 y)))
    have HIG := hidep HX.out.hi
    clear hn1 hb1 hz1 c0 d0 f0
    generalize hg7 : w.heap.size = g7 at *
    have HW7 := hidep hg7
    clear hg7
    rw [nums_getD] at e1
    generalize hxb : (x.data.toList.getD (m / 8) 0).toNat = xb at *
    have hxb2 : xb < 256 := by rw [← hxb]; exact UInt8.toNat_lt _
    clear hm8
    have q1 : (m : Int) / 8 < 64 := by omega
    go_wp2
    go_region
    go_upto_region 5 with (fail)
    generalize hy : bits .xor .u8 (xb : Int) (2 ^ (m % 8) % 256) = y
    have HY := hidep hy
    have HBX := hidep hxb
    clear hy hxb
    have hnl : m / 8 < (nums x).length := by rw [nums_len]; omega
    have HR := hidep ((HN1.out.set hnl y).drew)
    have hcv := run_str_of HR.out.drew c1 x.size (by rw [List.length_set, nums_len])
    clear hnl
    generalize hS : strOfNums ((nums x).set (m / 8) y) = s2 at hcv
    have HS2 := hidep hS
    clear hS
    have n1 : b ≠ g7 := by omega
    have n2 : g ≠ g7 := by omega
    have hc3 : (w1.setCell ⟨g7, m / 8, none⟩ (.int .u8 y)).cell? ⟨b, 0, none⟩ = some (.slice (some ⟨g, 0, none⟩) n c) := (World.cell?_setCell_other _ _ _ _ (by intro q; injection q with q _ _; omega)).trans hc2
    have hd3 : (w1.setCell ⟨g7, m / 8, none⟩ (.int .u8 y)).cell? ⟨g, k * 4, none⟩ = some (.string x) := (World.cell?_setCell_other _ _ _ _ (by intro q; injection q with q _ _; omega)).trans hd2
    have hf3 : (w1.setCell ⟨g7, m / 8, none⟩ (.int .u8 y)).frozen? ⟨g, k * 4, none⟩ = false := by rw [World.frozen?_setCell]; exact hf2
    have HT := hidep (HT0.out y)
    clear HT0
    clear hc2 hd2 hf2 e1 e2
    generalize w1.setCell ⟨g7, m / 8, none⟩ (.int .u8 y) = w2 at *
    have f2 := hf3
    go_region
    go_wp2
    go_ret
    have hz := HX.out.keep HT.out (.inl HIG.out)
    have hk2 := HK.out
    have hrow := hz.row.setCell (o := k * 4 + 0) (by rw [secsC_len]; omega) (.string s2)
    have e : s2 = rotB x m := by
      rw [← HS2.out]
      exact rotB_nums (by rw [HBX.out, ← HY.out]; exact xor_pow xb m hxb2)
    rw [secs_set hk2 0 _ { atS D.s k with text := s2 } (by omega) rfl, Nat.add_zero] at hrow
    have hfin := hz.row_set (Turn.setCell (a := ⟨g, k * 4, none⟩) (Nat.le_refl g) (Nat.lt_succ_self g) _) hrow ⟨by show s2.size = 64; rw [e, rotB_size]; omega, (hz.ok.1.at hk2).2⟩ (fun q => hz.clean (atS D.s k) (by rw [atS_get hk2]; exact List.getElem_mem hk2) q)
    have hT1 : Turn lo hi w (w2.setCell ⟨g, k * 4, none⟩ (.string s2)) := (by
      have q1 : Turn lo hi w2 (w2.setCell ⟨g, k * 4, none⟩ (.string s2)) := Turn.setCell (a := ⟨g, k * 4, none⟩) hz.hg.1 hz.hg.2 _
      have q2 : Turn lo hi w w2 := ⟨HT.out.os, HT.out.tape, HT.out.output, HT.out.size, fun j hj _ => HT.out.block j hj (by have := HW7.out; omega)⟩
      exact q2.trans q1)
    refine ⟨rfl, ?_, hT1.trans (Turn.drewN 2)⟩
    rw [HW.out]
    refine ⟨b, g, c, rfl, ?_⟩
    have hfin2 := hfin.keep (lo' := hi) (hi' := hi) (Turn.drewN 2) (.inl (Nat.le_refl _))
    rw [show rotS D.s k m = D.s.set k { atS D.s k with text := s2 } by unfold rotS; rw [e, HXX.out]]
    exact hfin2
end Go.Proofs.Ytmgogmjkoealoaa
