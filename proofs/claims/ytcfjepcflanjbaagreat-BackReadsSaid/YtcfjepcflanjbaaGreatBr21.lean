/- Plain moves of reading; contracts: small, piece (the code), syms (the reference). -/
import Derived.Test.YtcfjepcflanjbaaGreatBr20
namespace Go.Proofs.YtcfjepcflanjbaaGreat
open Go.RowKit Go.Lab Go.Shelf
set_option maxRecDepth 100000
/-! ### plain -/
structure MvZ where
  cells : List Int
  text : ByteArray
  cap : Bool
  dst : PlZ
def zq5a (s : ByteArray) : Bool := decide (1 <= s.size) && lowB ((byts s).getD 0 0)
def needZ (wh : Int) : Nat := if wh = 1 then 1 else if wh = 2 then 2 else 0
def zq41 (p : PlZ) (wh : Int) : Bool := decide (p.need = 1) || (p.st.word && (decide (wh = 1) || decide (wh = 2))) || (!p.st.word && decide (wh = 3))
def headZ (T : TabZ) (p : PlZ) : List Int := if p.st.num = true then T.en else []
def zq18 (T : TabZ) (p : PlZ) (r : RuleZ) : List MvZ :=
  if zq5a r.text = true then (if zq41 p r.wh = true then [] else
    [⟨headZ T p ++ r.cells, r.text, false, ⟨⟨p.st.lang, false, true⟩, needZ r.wh, false⟩⟩, ⟨headZ T p ++ (T.cp ++ r.cells), r.text, true, ⟨⟨p.st.lang, false, true⟩, needZ r.wh, false⟩⟩])
  else if p.need = 2 then [] else [⟨r.cells, r.text, false, ⟨⟨p.st.lang, false, false⟩, 0, false⟩⟩]
def zq2d (d : Nat) : ByteArray := ⟨#[UInt8.ofNat (48 + d)]⟩
def digMv (T : TabZ) (p : PlZ) (d : Nat) (c : Int) : MvZ := ⟨(if p.st.num = true then [] else T.nm) ++ [c], zq2d d, false, ⟨⟨p.st.lang, true, false⟩, 0, false⟩⟩
def zq26 (T : TabZ) (p : PlZ) : List MvZ := (List.range T.dg.length).map fun d => digMv T p d (T.dg.getD d 0)
def swMv (T : TabZ) (p : PlZ) : List MvZ := if p.sw = true then [] else [⟨T.sw, ByteArray.empty, false, ⟨⟨1 - p.st.lang, false, false⟩, 0, true⟩⟩]
def zqa (T : TabZ) (p : PlZ) : List MvZ := (T.rules p.st.lang).flatMap (zq18 T p) ++ (if p.need = 2 then [] else zq26 T p ++ swMv T p)
theorem moves_rule (T : TabZ) (p : PlZ) {L : List RuleZ} (hL : T.rules p.st.lang = L) {i : Nat} (h : i < L.length) : ∃ tail, zqa T p = (L.take i).flatMap (zq18 T p) ++ (zq18 T p L[i] ++ tail) := by
  refine ⟨(L.drop (i + 1)).flatMap (zq18 T p) ++ (if p.need = 2 then [] else zq26 T p ++ swMv T p), ?_⟩
  unfold zqa
  rw [hL]
  have e : L.flatMap (zq18 T p) = (L.take i).flatMap (zq18 T p) ++ (zq18 T p L[i] ++ (L.drop (i + 1)).flatMap (zq18 T p)) := by
    rw [<- List.flatMap_cons, <- List.drop_eq_getElem_cons h, <- List.flatMap_append, List.take_append_drop]
  rw [e]
  simp only [List.append_assoc]
theorem moves_take (T : TabZ) (p : PlZ) {L : List RuleZ} {i : Nat} (h : i < L.length) : (L.take (i + 1)).flatMap (zq18 T p) = (L.take i).flatMap (zq18 T p) ++ zq18 T p L[i] := by
  rw [List.take_succ_eq_append_getElem h, List.flatMap_append]
  simp only [List.flatMap_cons, List.flatMap_nil, List.append_nil]
theorem zq52 (T : TabZ) (p : PlZ) : (zq26 T p).length = T.dg.length := by simp [zq26]
theorem digMvs_take (T : TabZ) (p : PlZ) {k : Nat} (h : k < T.dg.length) : (zq26 T p).take (k + 1) = (zq26 T p).take k ++ [digMv T p k (T.dg.getD k 0)] := by
  rw [List.take_succ_eq_append_getElem (by rw [zq52]; exact h)]
  simp [zq26]
theorem moves_dig (T : TabZ) (p : PlZ) (hp : p.need ≠ 2) {k : Nat} (h : k < T.dg.length) : ∃ tail, zqa T p = ((T.rules p.st.lang).flatMap (zq18 T p) ++ (zq26 T p).take k) ++ (digMv T p k (T.dg.getD k 0) :: tail) := by
  refine ⟨(zq26 T p).drop (k + 1) ++ swMv T p, ?_⟩
  unfold zqa
  rw [if_neg hp]
  have e : zq26 T p = (zq26 T p).take k ++ (digMv T p k (T.dg.getD k 0) :: (zq26 T p).drop (k + 1)) := by
    have h1 : (zq26 T p)[k]'(by rw [zq52]; exact h) = digMv T p k (T.dg.getD k 0) := by simp [zq26]
    rw [<- h1, <- List.drop_eq_getElem_cons, List.take_append_drop]
  conv => lhs; rw [e]
  simp only [List.append_assoc, List.cons_append]
theorem moves_sw (T : TabZ) (p : PlZ) (hp : p.need ≠ 2) : zqa T p = ((T.rules p.st.lang).flatMap (zq18 T p) ++ zq26 T p) ++ swMv T p := by
  unfold zqa
  rw [if_neg hp, List.append_assoc]
def zq3b (lang : Int) (s : ByteArray) (cap : Bool) (k : Nat) : Sym := ⟨lang, if k = 0 /\ cap = true then IntKind.u8.wrap ((byts s).getD k 0 - 32) else (byts s).getD k 0⟩
def zq1b (lang : Int) (s : ByteArray) (cap : Bool) : List Sym := (List.range s.size).map (zq3b lang s cap)
theorem zq49 (lang : Int) (s : ByteArray) (cap : Bool) : (zq1b lang s cap).length = s.size := by simp [zq1b]
theorem zq7c (lang : Int) (s : ByteArray) (cap : Bool) (k : Nat) (h : k < s.size) : (zq1b lang s cap).take (k + 1) = (zq1b lang s cap).take k ++ [zq3b lang s cap k] := by
  rw [List.take_succ_eq_append_getElem (by rw [zq49]; exact h)]
  simp [zq1b]
/-! ### walks -/
set_option maxHeartbeats 1000000 in
theorem smallC_any (s : ByteArray) (w : World) (hs : s.size <= 100000) : Calls Tryz.prog 120 #[.string s] w fun e w' => e = .returned (.bool (zq5a s)) /\ w' = w := by
  by_cases h1 : 1 <= s.size
  · have hl : 0 < (byts s).length := by rw [zq1a]; exact h1
    have hat := zq40 s 0 h1 hl
    have hne : s ≠ ByteArray.empty := by rintro rfl; exact absurd h1 (by decide)
    have hemp : s.toList.isEmpty = false := by
      cases hh : s.toList.isEmpty with
      | false => rfl
      | true => exact absurd (zq71 (by rw [List.isEmpty_iff.1 hh]; kernel_rfl : s.toList = ByteArray.empty.toList)) hne
    have HZ := hidep (show zq5a s = lowB (byts s)[0] from by
      unfold zq5a; rw [decide_eq_true h1, Bool.true_and, List.getD_eq_getElem?_getD, List.getElem?_eq_getElem hl]; rfl)
    obtain ⟨y, hy⟩ : ∃ y, y = (byts s)[0] := ⟨_, rfl⟩
    rw [<- hy] at hat HZ
    have hpos : (0 : Int) < (s.size : Int) := by omega
    clear hy hl
    by_cases hl : 97 <= y
    · by_cases hu : y <= 122
      · have HG := hidep (HZ.out.trans (by simp [lowB, hl, hu] : _ = true))
        go_enter Tryz.func120, Tryz.ntmps120
        go_wp2
        go_ret
        exact ⟨zqb (congrArg Value.bool HG.out.symm), rfl⟩
      · have HG := hidep (HZ.out.trans (by simp [lowB, hu] : _ = false))
        go_enter Tryz.func120, Tryz.ntmps120
        go_wp2
        go_ret
        exact ⟨zqb (congrArg Value.bool HG.out.symm), rfl⟩
    · have HG := hidep (HZ.out.trans (by simp [lowB, hl] : _ = false))
      go_enter Tryz.func120, Tryz.ntmps120
      go_wp2
      go_ret
      exact ⟨zqb (congrArg Value.bool HG.out.symm), rfl⟩
  · have he : s = ByteArray.empty := by
      have : s.size = 0 := by omega
      apply ByteArray.ext
      exact Array.eq_empty_of_size_eq_zero this
    have HZ := hidep (show zq5a s = false from by unfold zq5a; rw [decide_eq_false h1, Bool.false_and])
    subst he
    go_enter Tryz.func120, Tryz.ntmps120
    go_wp2
    go_ret
    exact ⟨zqb (congrArg Value.bool HZ.out.symm), rfl⟩
set_option maxHeartbeats 1000000 in
theorem piece_true (lang : Int) (s : ByteArray) (w : World) (hs : s.size <= 100000) :
    Calls Tryz.prog 106 #[.int .i64 lang, .string s, .bool true] w fun e w' => ∃ v, e = .returned v /\ w'.ownsRow w.heap.size 39 2 v (zq1b lang s true).length (symsC (zq1b lang s true)) /\ Below w.heap.size w w' := by
  obtain ⟨PZ, hPZ⟩ : ∃ P, P = zq1b lang s true := ⟨_, rfl⟩
  have HL := hidep (show PZ.length = s.size from by rw [hPZ, zq49])
  have HTK := hidep (fun k hk => (hPZ ▸ zq7c lang s true k hk : PZ.take (k + 1) = PZ.take k ++ [zq3b lang s true k]))
  rw [<- hPZ]
  clear hPZ
  go_enter Tryz.func106, Tryz.ntmps106
  go_upto_region 3 with (fail)
  go_loopw [7, 12] (fun vv iv wr => ∃ k : Nat, k <= s.size /\ iv = .int .i64 (k : Nat) /\ wr.ownsRow w.heap.size 39 2 vv k (symsC (PZ.take k)) /\ Below w.heap.size w wr) (fun _ iv _ => s.size - (intOf iv).toNat)
  case atStart => exact ⟨0, Nat.zero_le _, rfl, World.ownsRow_nil _ _ _ _, Below.refl _ _⟩
  case round =>
    obtain ⟨k, hk, rfl, hown, hbw⟩ := hrel
    obtain ⟨va, vc, rfl, hvc, hvm⟩ := (Rd.of_own hown).form
    unfold maxLen at hvm
    by_cases hks : k < s.size
    · have hki : (k : Int) < (s.size : Int) := by omega
      have hpos : (0 : Int) <= (k : Int) := by omega
      have hwk : IntKind.i64.wrap ((k : Int) + 1) = (k : Int) + 1 := IntWalk.i64_in _ (by omega)
      have hkl : k < (byts s).length := by rw [zq1a]; exact hks
      have hat := zq40 s k hks hkl
      obtain ⟨y, hy⟩ : ∃ y, y = (byts s)[k] := ⟨_, rfl⟩
      have HPA := hidep (show zq3b lang s true k = ⟨lang, if k = 0 /\ true = true then IntKind.u8.wrap (y - 32) else y⟩ from by
        unfold zq3b; rw [List.getD_eq_getElem?_getD, List.getElem?_eq_getElem hkl, hy]; rfl)
      rw [<- hy] at hat
      have HT := hidep (HTK.out k hks)
      have hfr : ∀ x : Int, Rd (wr.alloc (.cells #[.int .i64 lang, .int .u8 x] 39)) (· = 39) 2 (.slice (some ⟨wr.heap.size, 0, none⟩) 1 1) 1 [.int .i64 lang, .int .u8 x] := fun x => Rd.fresh wr #[.int .i64 lang, .int .u8 x] 39 2 1 rfl (by decide)
      have hown1 : ∀ x : Int, (wr.alloc (.cells #[.int .i64 lang, .int .u8 x] 39)).ownsRow w.heap.size 39 2 (.slice va k vc) k (symsC (PZ.take k)) := fun x => hown.alloc _
      have hbx : ∀ x : Int, w.heap.size <= (wr.alloc (.cells #[.int .i64 lang, .int .u8 x] 39)).heap.size := fun x => by rw [World.size_alloc]; have := hbw.size; omega
      have HB := hidep (fun x : Int => hbw.alloc hbw.size (.cells #[.int .i64 lang, .int .u8 x] 39))
      clear hy hkl
      by_cases hk0 : k = 0
      · have HPB := hidep (HPA.out.trans (by rw [if_pos ⟨hk0, rfl⟩]))
        have hk1 : ((k : Int) == 0) = true := by simp [hk0]
        clear hk0
        go_wp2_with (at_builtin; refine zq4 _ rfl (.tmp 25) (.tmp 29) rfl zq48 w.heap.size _ _ _ rfl (hown1 _) _ _ _ _ rfl (hfr _) (by intro u hu; simp at hu; rcases hu with rfl | rfl <;> rfl) (by unfold maxLen; omega) (by omega) (hbx _) ?_; intro v2 w2 hown2 hgr2 hat2 hnl2; clear hat2 hnl2)
        go_roundw
        case rel => exact ⟨k + 1, by omega, by go_num, by rw [HT.out, zq2c, HPB.out]; first | exact hown2 | (rw [hat] at hown2; exact hown2), (HB.out _).grown hgr2 (hbx _) (fun g hg => (hown.lt g hg).1)⟩
        case measure => simp [intOf]; omega
      · have HPB := hidep (HPA.out.trans (by rw [if_neg (fun h => hk0 h.1)]))
        have hk1 : ((k : Int) == 0) = false := beq_false_of_ne (by omega)
        have hk00 : ¬ (k : Int) = 0 := by omega
        clear hk0
        go_wp2_with (at_builtin; refine zq4 _ rfl (.tmp 25) (.tmp 29) rfl zq48 w.heap.size _ _ _ rfl (hown1 _) _ _ _ _ rfl (hfr _) (by intro u hu; simp at hu; rcases hu with rfl | rfl <;> rfl) (by unfold maxLen; omega) (by omega) (hbx _) ?_; intro v2 w2 hown2 hgr2 hat2 hnl2; clear hat2 hnl2)
        go_roundw
        case rel => exact ⟨k + 1, by omega, by go_num, by rw [HT.out, zq2c, HPB.out]; first | exact hown2 | (rw [hat] at hown2; exact hown2), (HB.out _).grown hgr2 (hbx _) (fun g hg => (hown.lt g hg).1)⟩
        case measure => simp [intOf]; omega
    · go_wp2
      go_ret
      have hkn : k = s.size := by omega
      refine ⟨_, rfl, ?_, hbw⟩
      have h1 := HL.out
      rw [List.take_of_length_le (by omega)] at hown
      rw [h1, <- hkn]
      exact hown
set_option maxHeartbeats 1000000 in
theorem piece_false (lang : Int) (s : ByteArray) (w : World) (hs : s.size <= 100000) :
    Calls Tryz.prog 106 #[.int .i64 lang, .string s, .bool false] w fun e w' => ∃ v, e = .returned v /\ w'.ownsRow w.heap.size 39 2 v (zq1b lang s false).length (symsC (zq1b lang s false)) /\ Below w.heap.size w w' := by
  obtain ⟨PZ, hPZ⟩ : ∃ P, P = zq1b lang s false := ⟨_, rfl⟩
  have HL := hidep (show PZ.length = s.size from by rw [hPZ, zq49])
  have HTK := hidep (fun k hk => (hPZ ▸ zq7c lang s false k hk : PZ.take (k + 1) = PZ.take k ++ [zq3b lang s false k]))
  rw [<- hPZ]
  clear hPZ
  go_enter Tryz.func106, Tryz.ntmps106
  go_upto_region 3 with (fail)
  go_loopw [7, 12] (fun vv iv wr => ∃ k : Nat, k <= s.size /\ iv = .int .i64 (k : Nat) /\ wr.ownsRow w.heap.size 39 2 vv k (symsC (PZ.take k)) /\ Below w.heap.size w wr) (fun _ iv _ => s.size - (intOf iv).toNat)
  case atStart => exact ⟨0, Nat.zero_le _, rfl, World.ownsRow_nil _ _ _ _, Below.refl _ _⟩
  case round =>
    obtain ⟨k, hk, rfl, hown, hbw⟩ := hrel
    obtain ⟨va, vc, rfl, hvc, hvm⟩ := (Rd.of_own hown).form
    unfold maxLen at hvm
    by_cases hks : k < s.size
    · have hki : (k : Int) < (s.size : Int) := by omega
      have hpos : (0 : Int) <= (k : Int) := by omega
      have hwk : IntKind.i64.wrap ((k : Int) + 1) = (k : Int) + 1 := IntWalk.i64_in _ (by omega)
      have hkl : k < (byts s).length := by rw [zq1a]; exact hks
      have hat := zq40 s k hks hkl
      obtain ⟨y, hy⟩ : ∃ y, y = (byts s)[k] := ⟨_, rfl⟩
      have HPA := hidep (show zq3b lang s false k = ⟨lang, if k = 0 /\ false = true then IntKind.u8.wrap (y - 32) else y⟩ from by
        unfold zq3b; rw [List.getD_eq_getElem?_getD, List.getElem?_eq_getElem hkl, hy]; rfl)
      rw [<- hy] at hat
      have HT := hidep (HTK.out k hks)
      have hfr : ∀ x : Int, Rd (wr.alloc (.cells #[.int .i64 lang, .int .u8 x] 39)) (· = 39) 2 (.slice (some ⟨wr.heap.size, 0, none⟩) 1 1) 1 [.int .i64 lang, .int .u8 x] := fun x => Rd.fresh wr #[.int .i64 lang, .int .u8 x] 39 2 1 rfl (by decide)
      have hown1 : ∀ x : Int, (wr.alloc (.cells #[.int .i64 lang, .int .u8 x] 39)).ownsRow w.heap.size 39 2 (.slice va k vc) k (symsC (PZ.take k)) := fun x => hown.alloc _
      have hbx : ∀ x : Int, w.heap.size <= (wr.alloc (.cells #[.int .i64 lang, .int .u8 x] 39)).heap.size := fun x => by rw [World.size_alloc]; have := hbw.size; omega
      have HB := hidep (fun x : Int => hbw.alloc hbw.size (.cells #[.int .i64 lang, .int .u8 x] 39))
      clear hy hkl
      have HPB := hidep (HPA.out.trans (by rw [if_neg (fun h => by cases h.2)]))
      by_cases hk0 : k = 0
      · have hk1 : ((k : Int) == 0) = true := by simp [hk0]
        clear hk0
        go_wp2_with (at_builtin; refine zq4 _ rfl (.tmp 25) (.tmp 29) rfl zq48 w.heap.size _ _ _ rfl (hown1 _) _ _ _ _ rfl (hfr _) (by intro u hu; simp at hu; rcases hu with rfl | rfl <;> rfl) (by unfold maxLen; omega) (by omega) (hbx _) ?_; intro v2 w2 hown2 hgr2 hat2 hnl2; clear hat2 hnl2)
        go_roundw
        case rel => exact ⟨k + 1, by omega, by go_num, by rw [HT.out, zq2c, HPB.out]; first | exact hown2 | (rw [hat] at hown2; exact hown2), (HB.out _).grown hgr2 (hbx _) (fun g hg => (hown.lt g hg).1)⟩
        case measure => simp [intOf]; omega
      · have hk1 : ((k : Int) == 0) = false := beq_false_of_ne (by omega)
        have hk00 : ¬ (k : Int) = 0 := by omega
        clear hk0
        go_wp2_with (at_builtin; refine zq4 _ rfl (.tmp 25) (.tmp 29) rfl zq48 w.heap.size _ _ _ rfl (hown1 _) _ _ _ _ rfl (hfr _) (by intro u hu; simp at hu; rcases hu with rfl | rfl <;> rfl) (by unfold maxLen; omega) (by omega) (hbx _) ?_; intro v2 w2 hown2 hgr2 hat2 hnl2; clear hat2 hnl2)
        go_roundw
        case rel => exact ⟨k + 1, by omega, by go_num, by rw [HT.out, zq2c, HPB.out]; first | exact hown2 | (rw [hat] at hown2; exact hown2), (HB.out _).grown hgr2 (hbx _) (fun g hg => (hown.lt g hg).1)⟩
        case measure => simp [intOf]; omega
    · go_wp2
      go_ret
      have hkn : k = s.size := by omega
      refine ⟨_, rfl, ?_, hbw⟩
      have h1 := HL.out
      rw [List.take_of_length_le (by omega)] at hown
      rw [h1, <- hkn]
      exact hown
theorem piece_any (lang : Int) (s : ByteArray) (cap : Bool) (w : World) (hs : s.size <= 100000) :
    Calls Tryz.prog 106 #[.int .i64 lang, .string s, .bool cap] w fun e w' => ∃ v, e = .returned v /\ w'.ownsRow w.heap.size 39 2 v (zq1b lang s cap).length (symsC (zq1b lang s cap)) /\ Below w.heap.size w w' := by
  cases cap
  · exact piece_false lang s w hs
  · exact piece_true lang s w hs
set_option maxHeartbeats 1000000 in
theorem symsR_true (lang : Int) (s : ByteArray) (w : World) (hs : s.size <= 100000) :
    Calls Tryz.prog 122 #[.int .i64 lang, .string s, .bool true] w fun e w' => ∃ v, e = .returned v /\ w'.ownsRow w.heap.size 39 2 v (zq1b lang s true).length (symsC (zq1b lang s true)) /\ Below w.heap.size w w' := by
  obtain ⟨PZ, hPZ⟩ : ∃ P, P = zq1b lang s true := ⟨_, rfl⟩
  have HL := hidep (show PZ.length = s.size from by rw [hPZ, zq49])
  have HTK := hidep (fun k hk => (hPZ ▸ zq7c lang s true k hk : PZ.take (k + 1) = PZ.take k ++ [zq3b lang s true k]))
  rw [<- hPZ]
  clear hPZ
  go_enter Tryz.func122, Tryz.ntmps122
  go_upto_region 3 with (fail)
  go_loopw [7, 8] (fun vv iv wr => ∃ k : Nat, k <= s.size /\ iv = .int .i64 (k : Nat) /\ wr.ownsRow w.heap.size 39 2 vv k (symsC (PZ.take k)) /\ Below w.heap.size w wr) (fun _ iv _ => s.size - (intOf iv).toNat)
  case atStart => exact ⟨0, Nat.zero_le _, rfl, World.ownsRow_nil _ _ _ _, Below.refl _ _⟩
  case round =>
    obtain ⟨k, hk, rfl, hown, hbw⟩ := hrel
    obtain ⟨va, vc, rfl, hvc, hvm⟩ := (Rd.of_own hown).form
    unfold maxLen at hvm
    by_cases hks : k < s.size
    · have hki : (k : Int) < (s.size : Int) := by omega
      have hpos : (0 : Int) <= (k : Int) := by omega
      have hwk : IntKind.i64.wrap ((k : Int) + 1) = (k : Int) + 1 := IntWalk.i64_in _ (by omega)
      have hkl : k < (byts s).length := by rw [zq1a]; exact hks
      have hat := zq40 s k hks hkl
      obtain ⟨y, hy⟩ : ∃ y, y = (byts s)[k] := ⟨_, rfl⟩
      have HPA := hidep (show zq3b lang s true k = ⟨lang, if k = 0 /\ true = true then IntKind.u8.wrap (y - 32) else y⟩ from by
        unfold zq3b; rw [List.getD_eq_getElem?_getD, List.getElem?_eq_getElem hkl, hy]; rfl)
      rw [<- hy] at hat
      have HT := hidep (HTK.out k hks)
      have hfr : ∀ x : Int, Rd (wr.alloc (.cells #[.int .i64 lang, .int .u8 x] 39)) (· = 39) 2 (.slice (some ⟨wr.heap.size, 0, none⟩) 1 1) 1 [.int .i64 lang, .int .u8 x] := fun x => Rd.fresh wr #[.int .i64 lang, .int .u8 x] 39 2 1 rfl (by decide)
      have hown1 : ∀ x : Int, (wr.alloc (.cells #[.int .i64 lang, .int .u8 x] 39)).ownsRow w.heap.size 39 2 (.slice va k vc) k (symsC (PZ.take k)) := fun x => hown.alloc _
      have hbx : ∀ x : Int, w.heap.size <= (wr.alloc (.cells #[.int .i64 lang, .int .u8 x] 39)).heap.size := fun x => by rw [World.size_alloc]; have := hbw.size; omega
      have HB := hidep (fun x : Int => hbw.alloc hbw.size (.cells #[.int .i64 lang, .int .u8 x] 39))
      clear hy hkl
      by_cases hk0 : k = 0
      · have HPB := hidep (HPA.out.trans (by rw [if_pos ⟨hk0, rfl⟩]))
        have hk1 : ((k : Int) == 0) = true := by simp [hk0]
        clear hk0
        go_wp2_with (at_builtin; refine zq4 _ rfl (.tmp 26) (.tmp 30) rfl zq48 w.heap.size _ _ _ rfl (hown1 _) _ _ _ _ rfl (hfr _) (by intro u hu; simp at hu; rcases hu with rfl | rfl <;> rfl) (by unfold maxLen; omega) (by omega) (hbx _) ?_; intro v2 w2 hown2 hgr2 hat2 hnl2; clear hat2 hnl2)
        go_roundw
        case rel => exact ⟨k + 1, by omega, by go_num, by rw [HT.out, zq2c, HPB.out]; first | exact hown2 | (rw [hat] at hown2; exact hown2), (HB.out _).grown hgr2 (hbx _) (fun g hg => (hown.lt g hg).1)⟩
        case measure => simp [intOf]; omega
      · have HPB := hidep (HPA.out.trans (by rw [if_neg (fun h => hk0 h.1)]))
        have hk1 : ((k : Int) == 0) = false := beq_false_of_ne (by omega)
        have hk00 : ¬ (k : Int) = 0 := by omega
        clear hk0
        go_wp2_with (at_builtin; refine zq4 _ rfl (.tmp 26) (.tmp 30) rfl zq48 w.heap.size _ _ _ rfl (hown1 _) _ _ _ _ rfl (hfr _) (by intro u hu; simp at hu; rcases hu with rfl | rfl <;> rfl) (by unfold maxLen; omega) (by omega) (hbx _) ?_; intro v2 w2 hown2 hgr2 hat2 hnl2; clear hat2 hnl2)
        go_roundw
        case rel => exact ⟨k + 1, by omega, by go_num, by rw [HT.out, zq2c, HPB.out]; first | exact hown2 | (rw [hat] at hown2; exact hown2), (HB.out _).grown hgr2 (hbx _) (fun g hg => (hown.lt g hg).1)⟩
        case measure => simp [intOf]; omega
    · go_wp2
      go_ret
      have hkn : k = s.size := by omega
      refine ⟨_, rfl, ?_, hbw⟩
      have h1 := HL.out
      rw [List.take_of_length_le (by omega)] at hown
      rw [h1, <- hkn]
      exact hown
set_option maxHeartbeats 1000000 in
theorem symsR_false (lang : Int) (s : ByteArray) (w : World) (hs : s.size <= 100000) :
    Calls Tryz.prog 122 #[.int .i64 lang, .string s, .bool false] w fun e w' => ∃ v, e = .returned v /\ w'.ownsRow w.heap.size 39 2 v (zq1b lang s false).length (symsC (zq1b lang s false)) /\ Below w.heap.size w w' := by
  obtain ⟨PZ, hPZ⟩ : ∃ P, P = zq1b lang s false := ⟨_, rfl⟩
  have HL := hidep (show PZ.length = s.size from by rw [hPZ, zq49])
  have HTK := hidep (fun k hk => (hPZ ▸ zq7c lang s false k hk : PZ.take (k + 1) = PZ.take k ++ [zq3b lang s false k]))
  rw [<- hPZ]
  clear hPZ
  go_enter Tryz.func122, Tryz.ntmps122
  go_upto_region 3 with (fail)
  go_loopw [7, 8] (fun vv iv wr => ∃ k : Nat, k <= s.size /\ iv = .int .i64 (k : Nat) /\ wr.ownsRow w.heap.size 39 2 vv k (symsC (PZ.take k)) /\ Below w.heap.size w wr) (fun _ iv _ => s.size - (intOf iv).toNat)
  case atStart => exact ⟨0, Nat.zero_le _, rfl, World.ownsRow_nil _ _ _ _, Below.refl _ _⟩
  case round =>
    obtain ⟨k, hk, rfl, hown, hbw⟩ := hrel
    obtain ⟨va, vc, rfl, hvc, hvm⟩ := (Rd.of_own hown).form
    unfold maxLen at hvm
    by_cases hks : k < s.size
    · have hki : (k : Int) < (s.size : Int) := by omega
      have hpos : (0 : Int) <= (k : Int) := by omega
      have hwk : IntKind.i64.wrap ((k : Int) + 1) = (k : Int) + 1 := IntWalk.i64_in _ (by omega)
      have hkl : k < (byts s).length := by rw [zq1a]; exact hks
      have hat := zq40 s k hks hkl
      obtain ⟨y, hy⟩ : ∃ y, y = (byts s)[k] := ⟨_, rfl⟩
      have HPA := hidep (show zq3b lang s false k = ⟨lang, if k = 0 /\ false = true then IntKind.u8.wrap (y - 32) else y⟩ from by
        unfold zq3b; rw [List.getD_eq_getElem?_getD, List.getElem?_eq_getElem hkl, hy]; rfl)
      rw [<- hy] at hat
      have HT := hidep (HTK.out k hks)
      have hfr : ∀ x : Int, Rd (wr.alloc (.cells #[.int .i64 lang, .int .u8 x] 39)) (· = 39) 2 (.slice (some ⟨wr.heap.size, 0, none⟩) 1 1) 1 [.int .i64 lang, .int .u8 x] := fun x => Rd.fresh wr #[.int .i64 lang, .int .u8 x] 39 2 1 rfl (by decide)
      have hown1 : ∀ x : Int, (wr.alloc (.cells #[.int .i64 lang, .int .u8 x] 39)).ownsRow w.heap.size 39 2 (.slice va k vc) k (symsC (PZ.take k)) := fun x => hown.alloc _
      have hbx : ∀ x : Int, w.heap.size <= (wr.alloc (.cells #[.int .i64 lang, .int .u8 x] 39)).heap.size := fun x => by rw [World.size_alloc]; have := hbw.size; omega
      have HB := hidep (fun x : Int => hbw.alloc hbw.size (.cells #[.int .i64 lang, .int .u8 x] 39))
      clear hy hkl
      have HPB := hidep (HPA.out.trans (by rw [if_neg (fun h => by cases h.2)]))
      by_cases hk0 : k = 0
      · have hk1 : ((k : Int) == 0) = true := by simp [hk0]
        clear hk0
        go_wp2_with (at_builtin; refine zq4 _ rfl (.tmp 26) (.tmp 30) rfl zq48 w.heap.size _ _ _ rfl (hown1 _) _ _ _ _ rfl (hfr _) (by intro u hu; simp at hu; rcases hu with rfl | rfl <;> rfl) (by unfold maxLen; omega) (by omega) (hbx _) ?_; intro v2 w2 hown2 hgr2 hat2 hnl2; clear hat2 hnl2)
        go_roundw
        case rel => exact ⟨k + 1, by omega, by go_num, by rw [HT.out, zq2c, HPB.out]; first | exact hown2 | (rw [hat] at hown2; exact hown2), (HB.out _).grown hgr2 (hbx _) (fun g hg => (hown.lt g hg).1)⟩
        case measure => simp [intOf]; omega
      · have hk1 : ((k : Int) == 0) = false := beq_false_of_ne (by omega)
        have hk00 : ¬ (k : Int) = 0 := by omega
        clear hk0
        go_wp2_with (at_builtin; refine zq4 _ rfl (.tmp 26) (.tmp 30) rfl zq48 w.heap.size _ _ _ rfl (hown1 _) _ _ _ _ rfl (hfr _) (by intro u hu; simp at hu; rcases hu with rfl | rfl <;> rfl) (by unfold maxLen; omega) (by omega) (hbx _) ?_; intro v2 w2 hown2 hgr2 hat2 hnl2; clear hat2 hnl2)
        go_roundw
        case rel => exact ⟨k + 1, by omega, by go_num, by rw [HT.out, zq2c, HPB.out]; first | exact hown2 | (rw [hat] at hown2; exact hown2), (HB.out _).grown hgr2 (hbx _) (fun g hg => (hown.lt g hg).1)⟩
        case measure => simp [intOf]; omega
    · go_wp2
      go_ret
      have hkn : k = s.size := by omega
      refine ⟨_, rfl, ?_, hbw⟩
      have h1 := HL.out
      rw [List.take_of_length_le (by omega)] at hown
      rw [h1, <- hkn]
      exact hown
theorem zqb9 (lang : Int) (s : ByteArray) (cap : Bool) (w : World) (hs : s.size <= 100000) :
    Calls Tryz.prog 122 #[.int .i64 lang, .string s, .bool cap] w fun e w' => ∃ v, e = .returned v /\ w'.ownsRow w.heap.size 39 2 v (zq1b lang s cap).length (symsC (zq1b lang s cap)) /\ Below w.heap.size w w' := by
  cases cap
  · exact symsR_false lang s w hs
  · exact symsR_true lang s w hs
end Go.Proofs.YtcfjepcflanjbaaGreat
