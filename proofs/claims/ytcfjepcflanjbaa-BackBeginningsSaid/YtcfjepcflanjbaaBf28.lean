/- Plain moves of reading; contracts: small, piece (the code), syms (the reference). -/
import Derived.Test.YtcfjepcflanjbaaBf18
namespace Go.Proofs.Ytcfjepcflanjbaa
open Go.RowKit Go.Lab Go.Shelf
set_option maxRecDepth 100000
/-! ### plain -/
structure MvZ where
  cells : List Int
  text : ByteArray
  cap : Bool
  dst : PlZ
def smallZ (s : ByteArray) : Bool := decide (1 ≤ s.size) && lowB ((byts s).getD 0 0)
def needZ (wh : Int) : Nat := if wh = 1 then 1 else if wh = 2 then 2 else 0
def blockedZ (p : PlZ) (wh : Int) : Bool := decide (p.need = 1) || (p.st.word && (decide (wh = 1) || decide (wh = 2))) || (!p.st.word && decide (wh = 3))
def headZ (T : TabZ) (p : PlZ) : List Int := if p.st.num = true then T.en else []
def ruleMv (T : TabZ) (p : PlZ) (r : RuleZ) : List MvZ :=
  if smallZ r.text = true then (if blockedZ p r.wh = true then [] else
    [⟨headZ T p ++ r.cells, r.text, false, ⟨⟨p.st.lang, false, true⟩, needZ r.wh, false⟩⟩, ⟨headZ T p ++ (T.cp ++ r.cells), r.text, true, ⟨⟨p.st.lang, false, true⟩, needZ r.wh, false⟩⟩])
  else if p.need = 2 then [] else [⟨r.cells, r.text, false, ⟨⟨p.st.lang, false, false⟩, 0, false⟩⟩]
def digText (d : Nat) : ByteArray := ⟨#[UInt8.ofNat (48 + d)]⟩
def digMv (T : TabZ) (p : PlZ) (d : Nat) (c : Int) : MvZ := ⟨(if p.st.num = true then [] else T.nm) ++ [c], digText d, false, ⟨⟨p.st.lang, true, false⟩, 0, false⟩⟩
def digMvs (T : TabZ) (p : PlZ) : List MvZ := (List.range T.dg.length).map fun d => digMv T p d (T.dg.getD d 0)
def swMv (T : TabZ) (p : PlZ) : List MvZ := if p.sw = true then [] else [⟨T.sw, ByteArray.empty, false, ⟨⟨1 - p.st.lang, false, false⟩, 0, true⟩⟩]
/-- What can be read next. -/
def movesZ (T : TabZ) (p : PlZ) : List MvZ := (T.rules p.st.lang).flatMap (ruleMv T p) ++ (if p.need = 2 then [] else digMvs T p ++ swMv T p)
theorem moves_rule (T : TabZ) (p : PlZ) {L : List RuleZ} (hL : T.rules p.st.lang = L) {i : Nat} (h : i < L.length) : ∃ tail, movesZ T p = (L.take i).flatMap (ruleMv T p) ++ (ruleMv T p L[i] ++ tail) := by
  refine ⟨(L.drop (i + 1)).flatMap (ruleMv T p) ++ (if p.need = 2 then [] else digMvs T p ++ swMv T p), ?_⟩
  unfold movesZ
  rw [hL]
  have e : L.flatMap (ruleMv T p) = (L.take i).flatMap (ruleMv T p) ++ (ruleMv T p L[i] ++ (L.drop (i + 1)).flatMap (ruleMv T p)) := by
    rw [← List.flatMap_cons, ← List.drop_eq_getElem_cons h, ← List.flatMap_append, List.take_append_drop]
  rw [e]
  simp only [List.append_assoc]
theorem moves_take (T : TabZ) (p : PlZ) {L : List RuleZ} {i : Nat} (h : i < L.length) : (L.take (i + 1)).flatMap (ruleMv T p) = (L.take i).flatMap (ruleMv T p) ++ ruleMv T p L[i] := by
  rw [List.take_succ_eq_append_getElem h, List.flatMap_append]
  simp only [List.flatMap_cons, List.flatMap_nil, List.append_nil]
theorem digMvs_len (T : TabZ) (p : PlZ) : (digMvs T p).length = T.dg.length := by simp [digMvs]
theorem digMvs_take (T : TabZ) (p : PlZ) {k : Nat} (h : k < T.dg.length) : (digMvs T p).take (k + 1) = (digMvs T p).take k ++ [digMv T p k (T.dg.getD k 0)] := by
  rw [List.take_succ_eq_append_getElem (by rw [digMvs_len]; exact h)]
  simp [digMvs]
theorem moves_dig (T : TabZ) (p : PlZ) (hp : p.need ≠ 2) {k : Nat} (h : k < T.dg.length) : ∃ tail, movesZ T p = ((T.rules p.st.lang).flatMap (ruleMv T p) ++ (digMvs T p).take k) ++ (digMv T p k (T.dg.getD k 0) :: tail) := by
  refine ⟨(digMvs T p).drop (k + 1) ++ swMv T p, ?_⟩
  unfold movesZ
  rw [if_neg hp]
  have e : digMvs T p = (digMvs T p).take k ++ (digMv T p k (T.dg.getD k 0) :: (digMvs T p).drop (k + 1)) := by
    have h1 : (digMvs T p)[k]'(by rw [digMvs_len]; exact h) = digMv T p k (T.dg.getD k 0) := by simp [digMvs]
    rw [← h1, ← List.drop_eq_getElem_cons, List.take_append_drop]
  conv => lhs; rw [e]
  simp only [List.append_assoc, List.cons_append]
theorem moves_sw (T : TabZ) (p : PlZ) (hp : p.need ≠ 2) : movesZ T p = ((T.rules p.st.lang).flatMap (ruleMv T p) ++ digMvs T p) ++ swMv T p := by
  unfold movesZ
  rw [if_neg hp, List.append_assoc]
def pieceAt (lang : Int) (s : ByteArray) (cap : Bool) (k : Nat) : Sym := ⟨lang, if k = 0 ∧ cap = true then IntKind.u8.wrap ((byts s).getD k 0 - 32) else (byts s).getD k 0⟩
def pieceZ (lang : Int) (s : ByteArray) (cap : Bool) : List Sym := (List.range s.size).map (pieceAt lang s cap)
theorem pieceZ_len (lang : Int) (s : ByteArray) (cap : Bool) : (pieceZ lang s cap).length = s.size := by simp [pieceZ]
theorem pieceZ_take (lang : Int) (s : ByteArray) (cap : Bool) (k : Nat) (h : k < s.size) : (pieceZ lang s cap).take (k + 1) = (pieceZ lang s cap).take k ++ [pieceAt lang s cap k] := by
  rw [List.take_succ_eq_append_getElem (by rw [pieceZ_len]; exact h)]
  simp [pieceZ]
theorem u8_rng (x : Int) : 0 ≤ IntKind.u8.wrap x ∧ IntKind.u8.wrap x < 256 := by
  have : IntKind.u8.wrap x = x % 256 := rfl
  omega
theorem piece_rng (lang : Int) (s : ByteArray) (cap : Bool) : ∀ x ∈ pieceZ lang s cap, x.lang = lang ∧ 0 ≤ x.c ∧ x.c < 256 := by
  intro x hx
  obtain ⟨k, hk, rfl⟩ := List.mem_map.1 hx
  refine ⟨rfl, ?_⟩
  unfold pieceAt
  simp only
  have hk2 : k < (byts s).length := by rw [byts_len]; simpa using hk
  have h2 : (byts s).getD k 0 = (byts s)[k] := by rw [List.getD_eq_getElem?_getD, List.getElem?_eq_getElem hk2]; rfl
  split
  · exact u8_rng _
  · rw [h2]
    exact byts_rng s _ (List.getElem_mem hk2)
/-! ### walks -/
set_option maxHeartbeats 1000000 in
theorem smallC_any (s : ByteArray) (w : World) (hs : s.size ≤ 100000) : Calls Try.prog 43 #[.string s] w fun e w' => e = .returned (.bool (smallZ s)) ∧ w' = w := by
  by_cases h1 : 1 ≤ s.size
  · have hl : 0 < (byts s).length := by rw [byts_len]; exact h1
    have hat := byts_at s 0 h1 hl
    have hne : s ≠ ByteArray.empty := by rintro rfl; exact absurd h1 (by decide)
    have hemp : s.toList.isEmpty = false := by
      cases hh : s.toList.isEmpty with
      | false => rfl
      | true => exact absurd (bytes_toList (by rw [List.isEmpty_iff.1 hh]; kernel_rfl : s.toList = ByteArray.empty.toList)) hne
    have HZ := hidep (show smallZ s = lowB (byts s)[0] from by
      unfold smallZ; rw [decide_eq_true h1, Bool.true_and, List.getD_eq_getElem?_getD, List.getElem?_eq_getElem hl]; rfl)
    obtain ⟨y, hy⟩ : ∃ y, y = (byts s)[0] := ⟨_, rfl⟩
    rw [← hy] at hat HZ
    have hpos : (0 : Int) < (s.size : Int) := by omega
    clear hy hl
    by_cases hl : 97 ≤ y
    · by_cases hu : y ≤ 122
      · have HG := hidep (HZ.out.trans (by simp [lowB, hl, hu] : _ = true))
        go_enter Try.func43, Try.ntmps43
        go_wp2
        go_ret
        exact ⟨ret_val (congrArg Value.bool HG.out.symm), rfl⟩
      · have HG := hidep (HZ.out.trans (by simp [lowB, hu] : _ = false))
        go_enter Try.func43, Try.ntmps43
        go_wp2
        go_ret
        exact ⟨ret_val (congrArg Value.bool HG.out.symm), rfl⟩
    · have HG := hidep (HZ.out.trans (by simp [lowB, hl] : _ = false))
      go_enter Try.func43, Try.ntmps43
      go_wp2
      go_ret
      exact ⟨ret_val (congrArg Value.bool HG.out.symm), rfl⟩
  · have he : s = ByteArray.empty := by
      have : s.size = 0 := by omega
      apply ByteArray.ext
      exact Array.eq_empty_of_size_eq_zero this
    have HZ := hidep (show smallZ s = false from by unfold smallZ; rw [decide_eq_false h1, Bool.false_and])
    subst he
    go_enter Try.func43, Try.ntmps43
    go_wp2
    go_ret
    exact ⟨ret_val (congrArg Value.bool HZ.out.symm), rfl⟩
set_option maxHeartbeats 1000000 in
theorem piece_true (lang : Int) (s : ByteArray) (w : World) (hs : s.size ≤ 100000) :
    Calls Try.prog 47 #[.int .i64 lang, .string s, .bool true] w fun e w' => ∃ v, e = .returned v ∧ w'.ownsRow w.heap.size 49 2 v (pieceZ lang s true).length (symsC (pieceZ lang s true)) ∧ Below w.heap.size w w' := by
  obtain ⟨PZ, hPZ⟩ : ∃ P, P = pieceZ lang s true := ⟨_, rfl⟩
  have HL := hidep (show PZ.length = s.size from by rw [hPZ, pieceZ_len])
  have HTK := hidep (fun k hk => (hPZ ▸ pieceZ_take lang s true k hk : PZ.take (k + 1) = PZ.take k ++ [pieceAt lang s true k]))
  rw [← hPZ]
  clear hPZ
  go_enter Try.func47, Try.ntmps47
  go_upto_region 3 with (fail)
  go_loopw [7, 12] (fun vv iv wr => ∃ k : Nat, k ≤ s.size ∧ iv = .int .i64 (k : Nat) ∧ wr.ownsRow w.heap.size 49 2 vv k (symsC (PZ.take k)) ∧ Below w.heap.size w wr) (fun _ iv _ => s.size - (intOf iv).toNat)
  case atStart => exact ⟨0, Nat.zero_le _, rfl, World.ownsRow_nil _ _ _ _, Below.refl _ _⟩
  case round =>
    obtain ⟨k, hk, rfl, hown, hbw⟩ := hrel
    obtain ⟨va, vc, rfl, hvc, hvm⟩ := (Rd.of_own hown).form
    unfold maxLen at hvm
    by_cases hks : k < s.size
    · have hki : (k : Int) < (s.size : Int) := by omega
      have hpos : (0 : Int) ≤ (k : Int) := by omega
      have hwk : IntKind.i64.wrap ((k : Int) + 1) = (k : Int) + 1 := IntWalk.i64_in _ (by omega)
      have hkl : k < (byts s).length := by rw [byts_len]; exact hks
      have hat := byts_at s k hks hkl
      obtain ⟨y, hy⟩ : ∃ y, y = (byts s)[k] := ⟨_, rfl⟩
      have HPA := hidep (show pieceAt lang s true k = ⟨lang, if k = 0 ∧ true = true then IntKind.u8.wrap (y - 32) else y⟩ from by
        unfold pieceAt; rw [List.getD_eq_getElem?_getD, List.getElem?_eq_getElem hkl, hy]; rfl)
      rw [← hy] at hat
      have HT := hidep (HTK.out k hks)
      have hfr : ∀ x : Int, Rd (wr.alloc (.cells #[.int .i64 lang, .int .u8 x] 49)) (· = 49) 2 (.slice (some ⟨wr.heap.size, 0, none⟩) 1 1) 1 [.int .i64 lang, .int .u8 x] := fun x => Rd.fresh wr #[.int .i64 lang, .int .u8 x] 49 2 1 rfl (by decide)
      have hown1 : ∀ x : Int, (wr.alloc (.cells #[.int .i64 lang, .int .u8 x] 49)).ownsRow w.heap.size 49 2 (.slice va k vc) k (symsC (PZ.take k)) := fun x => hown.alloc _
      have hbx : ∀ x : Int, w.heap.size ≤ (wr.alloc (.cells #[.int .i64 lang, .int .u8 x] 49)).heap.size := fun x => by rw [World.size_alloc]; have := hbw.size; omega
      have HB := hidep (fun x : Int => hbw.alloc hbw.size (.cells #[.int .i64 lang, .int .u8 x] 49))
      clear hy hkl
      by_cases hk0 : k = 0
      · have HPB := hidep (HPA.out.trans (by rw [if_pos ⟨hk0, rfl⟩]))
        have hk1 : ((k : Int) == 0) = true := by simp [hk0]
        clear hk0
        go_wp2_with (at_builtin; refine wpList_append_rd _ rfl (.tmp 25) (.tmp 29) rfl slSyms w.heap.size _ _ _ rfl (hown1 _) _ _ _ _ rfl (hfr _) (by intro u hu; simp at hu; rcases hu with rfl | rfl <;> rfl) (by unfold maxLen; omega) (by omega) (hbx _) ?_; intro v2 w2 hown2 hgr2 hat2 hnl2; clear hat2 hnl2)
        go_roundw
        case rel => exact ⟨k + 1, by omega, by go_num, by rw [HT.out, symsC_append, HPB.out]; first | exact hown2 | (rw [hat] at hown2; exact hown2), (HB.out _).grown hgr2 (hbx _) (fun g hg => (hown.lt g hg).1)⟩
        case measure => simp [intOf]; omega
      · have HPB := hidep (HPA.out.trans (by rw [if_neg (fun h => hk0 h.1)]))
        have hk1 : ((k : Int) == 0) = false := beq_false_of_ne (by omega)
        have hk00 : ¬ (k : Int) = 0 := by omega
        clear hk0
        go_wp2_with (at_builtin; refine wpList_append_rd _ rfl (.tmp 25) (.tmp 29) rfl slSyms w.heap.size _ _ _ rfl (hown1 _) _ _ _ _ rfl (hfr _) (by intro u hu; simp at hu; rcases hu with rfl | rfl <;> rfl) (by unfold maxLen; omega) (by omega) (hbx _) ?_; intro v2 w2 hown2 hgr2 hat2 hnl2; clear hat2 hnl2)
        go_roundw
        case rel => exact ⟨k + 1, by omega, by go_num, by rw [HT.out, symsC_append, HPB.out]; first | exact hown2 | (rw [hat] at hown2; exact hown2), (HB.out _).grown hgr2 (hbx _) (fun g hg => (hown.lt g hg).1)⟩
        case measure => simp [intOf]; omega
    · go_wp2
      go_ret
      have hkn : k = s.size := by omega
      refine ⟨_, rfl, ?_, hbw⟩
      have h1 := HL.out
      rw [List.take_of_length_le (by omega)] at hown
      rw [h1, ← hkn]
      exact hown
set_option maxHeartbeats 1000000 in
theorem piece_false (lang : Int) (s : ByteArray) (w : World) (hs : s.size ≤ 100000) :
    Calls Try.prog 47 #[.int .i64 lang, .string s, .bool false] w fun e w' => ∃ v, e = .returned v ∧ w'.ownsRow w.heap.size 49 2 v (pieceZ lang s false).length (symsC (pieceZ lang s false)) ∧ Below w.heap.size w w' := by
  obtain ⟨PZ, hPZ⟩ : ∃ P, P = pieceZ lang s false := ⟨_, rfl⟩
  have HL := hidep (show PZ.length = s.size from by rw [hPZ, pieceZ_len])
  have HTK := hidep (fun k hk => (hPZ ▸ pieceZ_take lang s false k hk : PZ.take (k + 1) = PZ.take k ++ [pieceAt lang s false k]))
  rw [← hPZ]
  clear hPZ
  go_enter Try.func47, Try.ntmps47
  go_upto_region 3 with (fail)
  go_loopw [7, 12] (fun vv iv wr => ∃ k : Nat, k ≤ s.size ∧ iv = .int .i64 (k : Nat) ∧ wr.ownsRow w.heap.size 49 2 vv k (symsC (PZ.take k)) ∧ Below w.heap.size w wr) (fun _ iv _ => s.size - (intOf iv).toNat)
  case atStart => exact ⟨0, Nat.zero_le _, rfl, World.ownsRow_nil _ _ _ _, Below.refl _ _⟩
  case round =>
    obtain ⟨k, hk, rfl, hown, hbw⟩ := hrel
    obtain ⟨va, vc, rfl, hvc, hvm⟩ := (Rd.of_own hown).form
    unfold maxLen at hvm
    by_cases hks : k < s.size
    · have hki : (k : Int) < (s.size : Int) := by omega
      have hpos : (0 : Int) ≤ (k : Int) := by omega
      have hwk : IntKind.i64.wrap ((k : Int) + 1) = (k : Int) + 1 := IntWalk.i64_in _ (by omega)
      have hkl : k < (byts s).length := by rw [byts_len]; exact hks
      have hat := byts_at s k hks hkl
      obtain ⟨y, hy⟩ : ∃ y, y = (byts s)[k] := ⟨_, rfl⟩
      have HPA := hidep (show pieceAt lang s false k = ⟨lang, if k = 0 ∧ false = true then IntKind.u8.wrap (y - 32) else y⟩ from by
        unfold pieceAt; rw [List.getD_eq_getElem?_getD, List.getElem?_eq_getElem hkl, hy]; rfl)
      rw [← hy] at hat
      have HT := hidep (HTK.out k hks)
      have hfr : ∀ x : Int, Rd (wr.alloc (.cells #[.int .i64 lang, .int .u8 x] 49)) (· = 49) 2 (.slice (some ⟨wr.heap.size, 0, none⟩) 1 1) 1 [.int .i64 lang, .int .u8 x] := fun x => Rd.fresh wr #[.int .i64 lang, .int .u8 x] 49 2 1 rfl (by decide)
      have hown1 : ∀ x : Int, (wr.alloc (.cells #[.int .i64 lang, .int .u8 x] 49)).ownsRow w.heap.size 49 2 (.slice va k vc) k (symsC (PZ.take k)) := fun x => hown.alloc _
      have hbx : ∀ x : Int, w.heap.size ≤ (wr.alloc (.cells #[.int .i64 lang, .int .u8 x] 49)).heap.size := fun x => by rw [World.size_alloc]; have := hbw.size; omega
      have HB := hidep (fun x : Int => hbw.alloc hbw.size (.cells #[.int .i64 lang, .int .u8 x] 49))
      clear hy hkl
      have HPB := hidep (HPA.out.trans (by rw [if_neg (fun h => by cases h.2)]))
      by_cases hk0 : k = 0
      · have hk1 : ((k : Int) == 0) = true := by simp [hk0]
        clear hk0
        go_wp2_with (at_builtin; refine wpList_append_rd _ rfl (.tmp 25) (.tmp 29) rfl slSyms w.heap.size _ _ _ rfl (hown1 _) _ _ _ _ rfl (hfr _) (by intro u hu; simp at hu; rcases hu with rfl | rfl <;> rfl) (by unfold maxLen; omega) (by omega) (hbx _) ?_; intro v2 w2 hown2 hgr2 hat2 hnl2; clear hat2 hnl2)
        go_roundw
        case rel => exact ⟨k + 1, by omega, by go_num, by rw [HT.out, symsC_append, HPB.out]; first | exact hown2 | (rw [hat] at hown2; exact hown2), (HB.out _).grown hgr2 (hbx _) (fun g hg => (hown.lt g hg).1)⟩
        case measure => simp [intOf]; omega
      · have hk1 : ((k : Int) == 0) = false := beq_false_of_ne (by omega)
        have hk00 : ¬ (k : Int) = 0 := by omega
        clear hk0
        go_wp2_with (at_builtin; refine wpList_append_rd _ rfl (.tmp 25) (.tmp 29) rfl slSyms w.heap.size _ _ _ rfl (hown1 _) _ _ _ _ rfl (hfr _) (by intro u hu; simp at hu; rcases hu with rfl | rfl <;> rfl) (by unfold maxLen; omega) (by omega) (hbx _) ?_; intro v2 w2 hown2 hgr2 hat2 hnl2; clear hat2 hnl2)
        go_roundw
        case rel => exact ⟨k + 1, by omega, by go_num, by rw [HT.out, symsC_append, HPB.out]; first | exact hown2 | (rw [hat] at hown2; exact hown2), (HB.out _).grown hgr2 (hbx _) (fun g hg => (hown.lt g hg).1)⟩
        case measure => simp [intOf]; omega
    · go_wp2
      go_ret
      have hkn : k = s.size := by omega
      refine ⟨_, rfl, ?_, hbw⟩
      have h1 := HL.out
      rw [List.take_of_length_le (by omega)] at hown
      rw [h1, ← hkn]
      exact hown
theorem piece_any (lang : Int) (s : ByteArray) (cap : Bool) (w : World) (hs : s.size ≤ 100000) :
    Calls Try.prog 47 #[.int .i64 lang, .string s, .bool cap] w fun e w' => ∃ v, e = .returned v ∧ w'.ownsRow w.heap.size 49 2 v (pieceZ lang s cap).length (symsC (pieceZ lang s cap)) ∧ Below w.heap.size w w' := by
  cases cap
  · exact piece_false lang s w hs
  · exact piece_true lang s w hs
end Go.Proofs.Ytcfjepcflanjbaa
