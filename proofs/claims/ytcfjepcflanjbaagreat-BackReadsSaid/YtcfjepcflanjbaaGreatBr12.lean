/- Contract: the text made of numbers (dactylref06.Syms). -/
import Derived.Test.YtcfjepcflanjbaaGreatBr11
namespace Go.Proofs.YtcfjepcflanjbaaGreat
open Go.RowKit Go.Lab
def b19 : ByteArray := ⟨#[116, 104, 101, 114, 105, 110, 103, 97, 110, 100, 115, 116, 111, 117, 98, 99, 97, 102, 120]⟩
def b10 : ByteArray := ⟨#[48, 49, 50, 51, 52, 53, 54, 55, 56, 57]⟩
def b6 : ByteArray := ⟨#[32, 46, 44, 63, 39, 45]⟩
def c19 (n : Int) : Int := ([116, 104, 101, 114, 105, 110, 103, 97, 110, 100, 115, 116, 111, 117, 98, 99, 97, 102, 120] : List Int).getD (n % 19).toNat 0
def c10 (n : Int) : Int := ([48, 49, 50, 51, 52, 53, 54, 55, 56, 57] : List Int).getD (n % 10).toNat 0
def c6 (n : Int) : Int := ([32, 46, 44, 63, 39, 45] : List Int).getD (n % 6).toNat 0
theorem b19_all : ∀ m : Fin 19, ((b19[m.val]'(m.isLt)).toNat : Int) = ([116, 104, 101, 114, 105, 110, 103, 97, 110, 100, 115, 116, 111, 117, 98, 99, 97, 102, 120] : List Int).getD m.val 0 := by decide
theorem b10_all : ∀ m : Fin 10, ((b10[m.val]'(m.isLt)).toNat : Int) = ([48, 49, 50, 51, 52, 53, 54, 55, 56, 57] : List Int).getD m.val 0 := by decide
theorem b6_all : ∀ m : Fin 6, ((b6[m.val]'(m.isLt)).toNat : Int) = ([32, 46, 44, 63, 39, 45] : List Int).getD m.val 0 := by decide
theorem b19_get (n : Int) (h : (n % 19).toNat < b19.size) : ((b19[(n % 19).toNat]'h).toNat : Int) = c19 n := b19_all ⟨_, h⟩
theorem b10_get (n : Int) (h : (n % 10).toNat < b10.size) : ((b10[(n % 10).toNat]'h).toNat : Int) = c10 n := b10_all ⟨_, h⟩
theorem b6_get (n : Int) (h : (n % 6).toNat < b6.size) : ((b6[(n % 6).toNat]'h).toNat : Int) = c6 n := b6_all ⟨_, h⟩
theorem c19_rng_all : ∀ m : Fin 19, 97 <= ([116, 104, 101, 114, 105, 110, 103, 97, 110, 100, 115, 116, 111, 117, 98, 99, 97, 102, 120] : List Int).getD m.val 0 /\ ([116, 104, 101, 114, 105, 110, 103, 97, 110, 100, 115, 116, 111, 117, 98, 99, 97, 102, 120] : List Int).getD m.val 0 <= 122 := by decide
theorem c10_rng_all : ∀ m : Fin 10, 48 <= ([48, 49, 50, 51, 52, 53, 54, 55, 56, 57] : List Int).getD m.val 0 /\ ([48, 49, 50, 51, 52, 53, 54, 55, 56, 57] : List Int).getD m.val 0 <= 57 := by decide
theorem c6_rng_all : ∀ m : Fin 6, 32 <= ([32, 46, 44, 63, 39, 45] : List Int).getD m.val 0 /\ ([32, 46, 44, 63, 39, 45] : List Int).getD m.val 0 <= 63 := by decide
theorem c19_rng (n : Int) : 97 <= c19 n /\ c19 n <= 122 := c19_rng_all ⟨(n % 19).toNat, by omega⟩
theorem c10_rng (n : Int) : 48 <= c10 n /\ c10 n <= 57 := c10_rng_all ⟨(n % 10).toNat, by omega⟩
theorem c6_rng (n : Int) : 32 <= c6 n /\ c6 n <= 63 := c6_rng_all ⟨(n % 6).toNat, by omega⟩
def charN (n : Int) : Int :=
  if n / 12 = 12 \/ n / 12 = 13 then c10 n else if n / 12 = 14 then c6 n else if n / 12 = 15 \/ n / 12 = 16 then 32 else if n / 12 = 17 then c19 n - 32 else c19 n
theorem charN_rng (n : Int) : 32 <= charN n /\ charN n <= 126 := by
  have := c19_rng n
  have := c10_rng n
  have := c6_rng n
  unfold charN
  repeat' split
  all_goals omega
def langN (lang n : Int) : Int := if n / 12 = 19 then 1 - lang else lang
theorem zq96 {lang n : Int} (h0 : 0 <= lang) (h1 : lang <= 1) : 0 <= langN lang n /\ langN lang n <= 1 := by
  unfold langN; split <;> omega
theorem chN_1 {n : Int} (h : (n / 12 == 12) = true) : c10 n = charN n := by unfold charN; rw [if_pos]; left; simpa using h
theorem chN_2 {n : Int} (h : (n / 12 == 13) = true) : c10 n = charN n := by unfold charN; rw [if_pos]; right; simpa using h
theorem chN_3 {n : Int} (h : (n / 12 == 14) = true) : c6 n = charN n := by
  have : n / 12 = 14 := by simpa using h
  unfold charN; rw [if_neg (by omega), if_pos this]
theorem chN_4 {n : Int} (h : (n / 12 == 15) = true) : 32 = charN n := by
  have : n / 12 = 15 := by simpa using h
  unfold charN; rw [if_neg (by omega), if_neg (by omega), if_pos (.inl this)]
theorem chN_5 {n : Int} (h : (n / 12 == 16) = true) : 32 = charN n := by
  have : n / 12 = 16 := by simpa using h
  unfold charN; rw [if_neg (by omega), if_neg (by omega), if_pos (.inr this)]
theorem chN_6 {n : Int} (h : (n / 12 == 17) = true) : c19 n - 32 = charN n := by
  have : n / 12 = 17 := by simpa using h
  unfold charN; rw [if_neg (by omega), if_neg (by omega), if_neg (by omega), if_pos this]
theorem chN_7 {n : Int} (h1 : (n / 12 == 12) = false) (h2 : (n / 12 == 13) = false) (h3 : (n / 12 == 14) = false) (h4 : (n / 12 == 15) = false) (h5 : (n / 12 == 16) = false) (h6 : (n / 12 == 17) = false) : c19 n = charN n := by
  have h1 : n / 12 ≠ 12 := by simpa using h1
  have h2 : n / 12 ≠ 13 := by simpa using h2
  have h3 : n / 12 ≠ 14 := by simpa using h3
  have h4 : n / 12 ≠ 15 := by simpa using h4
  have h5 : n / 12 ≠ 16 := by simpa using h5
  have h6 : n / 12 ≠ 17 := by simpa using h6
  unfold charN; rw [if_neg (by omega), if_neg (by omega), if_neg (by omega), if_neg (by omega)]
def zqe1 : List ByteArray := [⟨#[116, 104, 101]⟩, ⟨#[97, 110, 100]⟩, ⟨#[105, 110, 103]⟩, ⟨#[116, 105, 111, 110]⟩, ⟨#[98, 117, 116]⟩, ⟨#[98, 101]⟩, ⟨#[115, 116]⟩]
def wordB (n : Int) : ByteArray := zqe1.getD (n % 7).toNat ⟨#[]⟩
def zq43 (s : ByteArray) : List Int := s.data.toList.map fun b => (b.toNat : Int)
theorem zq85 (s : ByteArray) : (zq43 s).length = s.size := by unfold zq43; rw [List.length_map]; rfl
theorem bytesL_get (s : ByteArray) (j : Nat) (h : j < s.size) : (zq43 s)[j]'(by rw [zq85]; exact h) = ((s[j]'h).toNat : Int) := by
  unfold zq43; rw [List.getElem_map]; rfl
def addW (out : List Sym) (lang : Int) (ws : List Int) : List Sym := out ++ (ws.take (24 - out.length)).map (Sym.mk lang)
def addP (out : List Sym) (lang : Int) (ws : List Int) (j : Nat) : List Sym := out ++ (ws.take j).map (Sym.mk lang)
theorem addP_zero (out : List Sym) (lang : Int) (ws : List Int) : addP out lang ws 0 = out := by simp [addP]
theorem addP_len {out : List Sym} {lang : Int} {ws : List Int} {j : Nat} (h : j <= ws.length) : (addP out lang ws j).length = out.length + j := by simp [addP]; omega
theorem addP_succ {out : List Sym} {lang : Int} {ws : List Int} {j : Nat} (h : j < ws.length) : addP out lang ws (j + 1) = addP out lang ws j ++ [⟨lang, ws[j]⟩] := by
  unfold addP
  rw [List.take_succ_eq_append_getElem h, List.map_append, List.append_assoc]
  rfl
theorem addP_end {out : List Sym} {lang : Int} {ws : List Int} {j : Nat} (h : j = ws.length /\ j <= 24 - out.length \/ j = 24 - out.length) : addP out lang ws j = addW out lang ws := by
  unfold addP addW
  rcases h with ⟨h, h2⟩ | h
  · rw [List.take_of_length_le (by omega), List.take_of_length_le (by omega)]
  · rw [h]
theorem words7_size : ∀ m : Fin 7, (zqe1.getD m.val ⟨#[]⟩).size <= 4 := by decide
theorem wordB_size (n : Int) : (wordB n).size <= 4 := words7_size ⟨(n % 7).toNat, by omega⟩
def stepO (out : List Sym) (lang n : Int) : List Sym :=
  if n / 12 = 18 then addW (out ++ [(⟨langN lang n, charN n⟩ : Sym)]) (langN lang n) (zq43 (wordB n)) else out ++ [⟨langN lang n, charN n⟩]
theorem zqc2 {out : List Sym} {lang n : Int} (h : out.length < 24) : (stepO out lang n).length <= 24 := by
  unfold stepO addW
  split
  · simp; omega
  · simp; omega
def zq46 : List Int -> List Sym -> Int -> List Sym
  | [], out, _ => out
  | x :: xs, out, lang => if 24 <= out.length then out else zq46 xs (stepO out lang (zqd x 240)) (langN lang (zqd x 240))
def symsZ (l : List Int) : List Sym := zq46 l [] 0
theorem symsRun_step {l : List Int} {k : Nat} (h : k < l.length) {out : List Sym} {lang : Int} (ho : out.length < 24) :
    zq46 (l.drop k) out lang = zq46 (l.drop (k + 1)) (stepO out lang (zqd l[k] 240)) (langN lang (zqd l[k] 240)) := by
  rw [List.drop_eq_getElem_cons h, zq46, if_neg (by omega)]
theorem symsRun_stop {l : List Int} {out : List Sym} {lang : Int} (ho : l = [] \/ 24 <= out.length) : zq46 l out lang = out := by
  cases l with
  | nil => rfl
  | cons x xs =>
    rw [zq46]
    rcases ho with h | h
    · cases h
    · rw [if_pos h]
theorem symsRun_len : ∀ (l : List Int) (out : List Sym) (lang : Int), out.length <= 24 -> (zq46 l out lang).length <= 24
  | [], out, _, h => h
  | x :: xs, out, lang, h => by
    rw [zq46]
    split
    · exact h
    · exact symsRun_len xs _ _ (zqc2 (by omega))
theorem symsZ_len (l : List Int) : (symsZ l).length <= 24 := symsRun_len l [] 0 (by simp)
set_option maxHeartbeats 1000000 in
set_option maxRecDepth 100000 in
theorem syms_any (v : Value) (l : List Int) (w : World) (h : IntsAt w v l) : 
    Calls Tryz.prog 17 #[v] w fun e w' => ∃ u, e = .returned u /\ w'.ownsRow w.heap.size 39 2 u (symsZ l).length (symsC (symsZ l)) /\ Below w.heap.size w w' := by
  obtain ⟨a, cap, rfl, hc, hm⟩ := h.1.form
  unfold maxLen at hm
  go_enter Tryz.func17, Tryz.ntmps17
  go_wp2
  go_loopg [3, 4, 5] l.length (fun g o la i wr => ∃ (k : Nat) (out : List Sym) (lang : Int), k <= l.length /\ l.length - k = g /\ i = .int .i64 k /\ la = .int .i64 lang /\ 0 <= lang /\ lang <= 1 /\ out.length <= 24 /\
     wr.ownsRow w.heap.size 39 2 o out.length (symsC out) /\ Below w.heap.size w wr /\ Hid (symsZ l = zq46 (l.drop k) out lang))
  case atStart => exact ⟨0, [], 0, Nat.zero_le _, rfl, rfl, rfl, by omega, by omega, by simp, World.ownsRow_nil _ _ _ _, Below.refl _ _, hidep rfl⟩
  case round =>
    obtain ⟨k, out, lang, hk, hg, rfl, rfl, hl0, hl1, ho, hown, hbw, HR⟩ := hrel
    have HG := hidep hg
    clear hg
    obtain ⟨a', cap', rfl, hc', hm'⟩ := (Rd.of_own hown).form
    unfold maxLen at hm'
    by_cases hin : k < l.length /\ out.length < 24
    · obtain ⟨hlt, hlt'⟩ := hin
      obtain ⟨b, off, rfl, hb, hcell⟩ := (h.1.below hbw).at (by omega)
      have hx := hcell k _ (intsC_get l k hlt)
      have hr := h.2 l[k] (List.getElem_mem hlt)
      obtain ⟨hr1, hr2⟩ := hr
      have HR := hidep (HR.out.trans (symsRun_step hlt hlt'))
      clear hcell h
      generalize l[k] = x at *
      obtain ⟨hn0, hn1⟩ := zqe x 240 (by omega)
      have hi1 : 0 <= zqd x 240 % 19 /\ zqd x 240 % 19 < 19 := by omega
      have hi2 : 0 <= zqd x 240 % 10 /\ zqd x 240 % 10 < 10 := by omega
      have hi3 : 0 <= zqd x 240 % 6 /\ zqd x 240 % 6 < 6 := by omega
      generalize hn : zqd x 240 = n at *
      have HN := hidep hn
      clear hn
      go_upto_if 29 with (go_at_call 9; refine (zq14 _ _ _ (by omega) (by omega)).mono ?_; rintro e w' ⟨rfl, rfl⟩; rw [HN.out])
      go_cut [4] (fun s4 wc => s4 = .int .i64 (langN lang n) /\ Hid (wr = wc))
      case first =>
        go_wp2
        · have ht : (n / 12 == 19) = true := by assumption
          go_meet
          exact ⟨congrArg _ (by unfold langN; rw [if_pos (by simpa using ht)]), hidep rfl⟩
        · have ht : (n / 12 == 19) = false := by assumption
          go_meet
          exact ⟨congrArg _ (by unfold langN; rw [if_neg (by simpa using ht)]), hidep rfl⟩
      case rest =>
        obtain ⟨rfl, hw⟩ := hcut
        have hw' := hw.out
        clear hw
        subst hw'
        go_upto_region 9 with (fail)
        go_cut [7] (fun s7 wc => s7 = .int .u8 (c19 n) /\ Hid (wr = wc))
        case first =>
          go_wp2
          go_meet
          exact ⟨congrArg _ (b19_get n _), hidep rfl⟩
        case rest =>
          obtain ⟨rfl, hw⟩ := hcut
          have hw' := hw.out
          clear hw
          subst hw'
          have hc19 := c19_rng n
          obtain ⟨hc190, hc191⟩ := hc19
          go_upto_block 2 with (fail)
          go_cut [7] (fun s7 wc => s7 = .int .u8 (charN n) /\ Hid (wr = wc))
          case first =>
            go_wp2
            · have t1 : (n / 12 == 12) = true := by assumption
              go_meet
              exact ⟨congrArg _ ((b10_get n _).trans (chN_1 t1)), hidep rfl⟩
            · have t1 : (n / 12 == 13) = true := by assumption
              go_meet
              exact ⟨congrArg _ ((b10_get n _).trans (chN_2 t1)), hidep rfl⟩
            · have t1 : (n / 12 == 14) = true := by assumption
              go_meet
              exact ⟨congrArg _ ((b6_get n _).trans (chN_3 t1)), hidep rfl⟩
            · have t1 : (n / 12 == 15) = true := by assumption
              go_meet
              exact ⟨congrArg _ (chN_4 t1), hidep rfl⟩
            · have t1 : (n / 12 == 16) = true := by assumption
              go_meet
              exact ⟨congrArg _ (chN_5 t1), hidep rfl⟩
            · have t1 : (n / 12 == 17) = true := by assumption
              go_meet
              exact ⟨congrArg _ (chN_6 t1), hidep rfl⟩
            · go_meet
              exact ⟨congrArg _ (chN_7 ‹_› ‹_› ‹_› ‹_› ‹_› ‹_›), hidep rfl⟩
          case rest =>
            obtain ⟨rfl, hw⟩ := hcut
            have hw' := hw.out
            clear hw
            subst hw'
            have hsz := hbw.size
            have hfr := Rd.fresh wr #[.int .i64 (langN lang n), .int .u8 (charN n)] 39 2 1 rfl (by decide)
            go_upto_if 64 with (at_builtin; refine zq4 _ rfl (.tmp 55) (.tmp 59) rfl zq48 w.heap.size (.slice a' out.length cap') _ _ rfl (hown.alloc _) _ _ _ _ rfl hfr (by intro u hu; simp at hu; rcases hu with rfl | rfl <;> rfl) (by unfold maxLen; omega) (by omega) (by simp; omega) ?_; intro v1 w1 hown1 hgr1 _ _; clear hfr)
            have hbw1 : Below w.heap.size w w1 := (hbw.alloc hsz _).grown hgr1 (by simp; omega) (fun g hg => (hown.lt g hg).1)
            have hown1' : w1.ownsRow w.heap.size 39 2 v1 (out ++ [(⟨langN lang n, charN n⟩ : Sym)]).length (symsC (out ++ [(⟨langN lang n, charN n⟩ : Sym)])) := by
              rw [zq2c, symsC_one_, List.length_append]; exact hown1
            clear hown1 hgr1 hown hx hbw
            have hsz1 := hbw1.size
            have HO : Hid (stepO out lang n = if n / 12 = 18 then addW (out ++ [(⟨langN lang n, charN n⟩ : Sym)]) (langN lang n) (zq43 (wordB n)) else out ++ [(⟨langN lang n, charN n⟩ : Sym)]) := hidep rfl
            have ho1 : (out ++ [(⟨langN lang n, charN n⟩ : Sym)]).length <= 24 := by simp; omega
            generalize out ++ [(⟨langN lang n, charN n⟩ : Sym)] = out1 at *
            by_cases h18 : n / 12 = 18
            · have HO := hidep (HO.out.trans (if_pos h18))
              have ht : (n / 12 == 18) = true := by simpa using h18
              clear h18
              go_upto_region 24 with (fail)
              go_cut [9] (fun s9 wc => s9 = .string (wordB n) /\ Hid (wc = w1.alloc (.cells #[.string ⟨#[116, 104, 101]⟩, .string ⟨#[97, 110, 100]⟩, .string ⟨#[105, 110, 103]⟩, .string ⟨#[116, 105, 111, 110]⟩, .string ⟨#[98, 117, 116]⟩, .string ⟨#[98, 101]⟩, .string ⟨#[115, 116]⟩] 9)))
              case first =>
                have h7 : n % 7 = 0 \/ n % 7 = 1 \/ n % 7 = 2 \/ n % 7 = 3 \/ n % 7 = 4 \/ n % 7 = 5 \/ n % 7 = 6 := by omega
                rcases h7 with h7 | h7 | h7 | h7 | h7 | h7 | h7
                all_goals
                  have HW : Hid (wordB n = zqe1.getD (n % 7).toNat ⟨#[]⟩) := hidep rfl
                  go_wp2
                  go_meet
                  exact ⟨congrArg _ (by rw [HW.out, h7]; rfl), hidep rfl⟩
              case rest =>
                obtain ⟨rfl, hw⟩ := hcut
                have hw' := hw.out
                clear hw
                have hbc : Below w.heap.size w wc := by rw [hw']; exact hbw1.alloc hsz1 _
                have hoc : wc.ownsRow w.heap.size 39 2 v1 out1.length (symsC out1) := by rw [hw']; exact hown1'.alloc _
                clear hw' hbw1 hown1' hsz1
                have HWS : Hid ((wordB n).size <= 4) := hidep (wordB_size n)
                generalize wordB n = ww at *
                have hws : ww.size < 9223372036854775807 := by have := HWS.out; omega
                go_wp2
                go_loopg [3, 10] ww.size (fun g o i wl => ∃ (j : Nat), j <= ww.size /\ j <= 24 - out1.length /\ ww.size - j = g /\ i = .int .i64 j /\
                    wl.ownsRow w.heap.size 39 2 o (addP out1 (langN lang n) (zq43 ww) j).length (symsC (addP out1 (langN lang n) (zq43 ww) j)) /\ Below w.heap.size w wl)
                case atStart => exact ⟨0, by omega, by omega, by omega, rfl, by rw [addP_zero]; exact hoc, hbc⟩
                case round =>
                  obtain ⟨j, hj1, hj2, hj3, rfl, hol, hbl⟩ := hrel
                  have HJ := hidep hj3
                  clear hj3 hoc hbc
                  have HL : Hid (∀ j, j <= ww.size -> (addP out1 (langN lang n) (zq43 ww) j).length = out1.length + j) := hidep (fun j hj => addP_len (by rw [zq85]; exact hj))
                  have hsz2 := hbl.size
                  rw [HL.out j hj1] at hol
                  obtain ⟨a2, cap2, rfl, hc2, hm2⟩ := (Rd.of_own hol).form
                  unfold maxLen at hm2
                  by_cases hin2 : j < ww.size /\ j < 24 - out1.length
                  · obtain ⟨hj4, hj5⟩ := hin2
                    have hfr := Rd.fresh wr #[.int .i64 (langN lang n), .int .u8 ((ww[j]'hj4).toNat)] 39 2 1 rfl (by decide)
                    have HA : Hid (symsC (addP out1 (langN lang n) (zq43 ww) (j + 1)) = symsC (addP out1 (langN lang n) (zq43 ww) j) ++ [.int .i64 (langN lang n), .int .u8 ((ww[j]'hj4).toNat)]) :=
                      hidep (by rw [addP_succ (by rw [zq85]; exact hj4), zq2c, symsC_one_, bytesL_get])
                    go_wp2_with (at_builtin; refine zq4 _ rfl (.tmp 81) (.tmp 87) rfl zq48 w.heap.size (.slice a2 (out1.length + j) cap2) _ _ rfl (hol.alloc _) _ _ _ _ rfl hfr (by intro u hu; simp at hu; rcases hu with rfl | rfl <;> rfl) (by unfold maxLen; omega) (by omega) (by simp; omega) ?_; intro v2 w2 hown2 hgr2 _ _; clear hfr)
                    go_roundg (ww.size - (j + 1))
                    case measure => have := HJ.out; omega
                    case rel => exact ⟨j + 1, by omega, by omega, by have := HJ.out; omega, by go_num, by rw [HL.out _ (by omega), HA.out]; exact hown2, (hbl.alloc hsz2 _).grown hgr2 (by simp; omega) (fun g hg => (hol.lt g hg).1)⟩
                  · have hj6 : (ww.size : Int) <= j \/ (24 : Int) <= ((out1.length + j : Nat) : Int) := by omega
                    have HE : Hid (addP out1 (langN lang n) (zq43 ww) j = addW out1 (langN lang n) (zq43 ww)) := hidep (addP_end (by rw [zq85]; omega))
                    go_wp2
                    all_goals
                      go_roundg (l.length - (k + 1))
                      case measure => have := HG.out; omega
                      case rel => exact ⟨k + 1, _, _, by omega, by have := HG.out; omega, by go_num, rfl, (zq96 hl0 hl1).1, (zq96 hl0 hl1).2, zqc2 hlt', by rw [HO.out, <- HE.out, HL.out j hj1]; exact hol, hbl, HR⟩
            · have HO := hidep (HO.out.trans (if_neg h18))
              have ht : (n / 12 == 18) = false := by simpa using h18
              clear h18
              go_wp2
              go_roundg (l.length - (k + 1))
              case measure => have := HG.out; omega
              case rel => exact ⟨k + 1, stepO out lang n, _, by omega, by have := HG.out; omega, by go_num, rfl, (zq96 hl0 hl1).1, (zq96 hl0 hl1).2, zqc2 hlt', by rw [HO.out]; exact hown1'.alloc _, hbw1.alloc hsz1 _, HR⟩
    · have hend : symsZ l = out := by
        rw [HR.out]
        refine symsRun_stop ?_
        by_cases hk2 : k < l.length
        · right; omega
        · left; rw [List.drop_eq_nil_iff]; omega
      have HE := hidep hend
      clear hend
      have hin2 : (l.length : Int) <= k \/ (24 : Int) <= (out.length : Int) := by omega
      go_wp2
      all_goals
        go_ret
        refine ⟨_, rfl, ?_, hbw⟩
        rw [HE.out]
        exact hown
end Go.Proofs.YtcfjepcflanjbaaGreat
/- Contracts of package lift: valid characters, valid edits. -/
namespace Go.Proofs.YtcfjepcflanjbaaGreat
open Go.RowKit Go.Lab
end Go.Proofs.YtcfjepcflanjbaaGreat
/- Contracts: slices.Grow of nothing, slices.Concat of texts. -/
namespace Go.Proofs.YtcfjepcflanjbaaGreat
open Go.RowKit Go.Lab
section
variable {P : Program} (w : World)
theorem run_append_zeros {t e tn : TypeId} {z : Value} {size bytes : Nat} (hT : SlT P t e z size bytes) (hn : P.underlying tn = some (.int .i64)) (ty : TypeId) (n : Nat) (h0 : 0 < n) (hb : n * bytes <= 140737488355328) (h63 : n <= 140737488355328) :
    (Builtin.append_ #[t, tn] ty #[.slice none 0 0, .int .i64 n]).run P w =
      .ok (.slice (some ⟨w.heap.size, 0, none⟩) n (grownCap w n 0 e)) (w.drew.alloc (.cells (Builtin.zeroCells z.cells n ++ Builtin.zeroCells z.cells (grownCap w n 0 e - n)) e)) := by
  obtain ⟨ht, hinfo, hzs, hsz⟩ := hT
  obtain ⟨i, hi, hz, hsize, hby⟩ := info_parts hinfo
  have h1 : IntKind.i64.wrap (n : Int) = n := IntWalk.i64_in _ (by omega)
  have h2 : ¬ ((n : Int) < 0) := by omega
  have h3 : ¬ ((281474976710656 : Int) < (n : Int) * (i.bytes : Int)) := by
    rw [hby]
    have : ((n * bytes : Nat) : Int) <= 140737488355328 := by omega
    rw [Int.natCast_mul] at this
    omega
  have h4 : n ≠ 0 := by omega
  have h5 : ¬ (9223372036854775807 < (n : Int)) := by omega
  have h6 : ¬ (281474976710656 < Builtin.nextslicecap n 0 * i.bytes) := by rw [nextslicecap_zero h0, hby]; omega
  simp [Builtin.append_, run_underlying ht, run_underlying hn, sizeOf, typeInfo, zeroValue, hi, hz, asInt, asIntOf, h1, h2, h3, h4, h5, h6, hsize, Question.forced, Builtin.firstCells, newRow, grownCap]
  intro h8
  rcases Nat.mul_eq_zero.1 h8 with h | h <;> omega
theorem wpList_append_zeros {ops : Array Oper} {rest : List Oper} {o : Oper} {a : Act} {Q : Exit -> Act -> World -> Prop} (hgd : o.guard = none) (s x : Operand) {t e tn : TypeId} {z : Value} {size bytes : Nat}
    (ho : o.op = .call { callee := .builtin .append, args := #[s, x], argTypes := #[t, tn] })
    (hT : SlT P t e z size bytes) (hn : P.underlying tn = some (.int .i64)) (n : Nat) (hs : a.eval s = .slice none 0 0) (hx : a.eval x = .int .i64 n) (h0 : 0 < n) (hb : n * bytes <= 140737488355328) (h63 : n <= 140737488355328)
    (h : ∀ c w', n <= c -> w'.ownsRow w.heap.size e size (.slice (some ⟨w.heap.size, 0, none⟩) 0 c) 0 [] -> Below w.heap.size w w' -> wpList P ops Q rest (a.put o.dst (.slice (some ⟨w.heap.size, 0, none⟩) n c)) w') : wpList P ops Q (o :: rest) a w := by
  refine wpList_plain hgd fun K hK => ?_
  have hrun := run_append_zeros (P := P) w hT hn o.type n h0 hb h63
  unfold Oper.wp execOp
  simp only [ho, resolve, invoke, builtin, Sem.run_bind, Sem.run_pure, Result.andThen_ok, List.map_toArray, List.map_cons, List.map_nil, hs, hx, hrun]
  refine hK _ _ (h (grownCap w n 0 e) _ (grownCap_ge _ _ _ _) ?_ ?_)
  · have := World.ownsRow_made (base := w.heap.size) (e := e) (size := size) w.drew (Builtin.zeroCells z.cells n ++ Builtin.zeroCells z.cells (grownCap w n 0 e - n)) (grownCap w n 0 e) (Nat.le_refl _) (grownCap_le_maxLen _ _ _ _ (by unfold maxLen; omega)) (by
      rw [Array.size_append, size_zeroCells, size_zeroCells, hT.2.2.1, <- Nat.add_mul]
      congr 1
      have := grownCap_ge w n 0 e
      omega)
    exact this
  · exact ((Below.refl _ _).drew).alloc (Nat.le_refl _) _
end
set_option maxHeartbeats 1000000 in
theorem grow_any (n : Nat) (w : World) (hn : n <= 1099511627776) :
    Calls Tryz.prog 118 #[.slice none 0 0, .int .i64 n] w fun e w' => ∃ v, e = .returned v /\ w'.ownsRow w.heap.size 39 2 v 0 [] /\ Below w.heap.size w w' := by
  by_cases h0 : 0 < n
  · go_enter Tryz.func118, Tryz.ntmps118
    go_wp2_with (at_builtin; refine wpList_append_zeros _ rfl (.tmp 20) (.tmp 21) rfl zq48 Tryz.underlying3 n rfl rfl h0 (by omega) (by omega) ?_; intro c w1 hc hown hb)
    go_ret
    exact ⟨_, rfl, hown, hb⟩
  · obtain rfl : n = 0 := by omega
    go_enter Tryz.func118, Tryz.ntmps118
    go_wp2
    go_ret
    exact ⟨_, rfl, World.ownsRow_nil _ _ _ _, Below.refl _ _⟩
def SymssAt (w : World) (v : Value) (l : List (List Sym)) : Prop :=
  ∃ us : List Value, us.length = l.length /\ Rd w (· = 31) 1 v l.length us /\ ∀ i (h : i < l.length) (h' : i < us.length), SymsAt w us[i] l[i]
theorem SymssAt.below {w w' : World} {v : Value} {l : List (List Sym)} (h : SymssAt w v l) (hb : Below w.heap.size w w') : SymssAt w' v l := by
  obtain ⟨us, hl, hr, hs⟩ := h
  exact ⟨us, hl, hr.below hb, fun i a b => (hs i a b).below hb⟩
theorem SymssAt.form {w : World} {v : Value} {l : List (List Sym)} (h : SymssAt w v l) : ∃ a cap, v = .slice a l.length cap /\ l.length <= cap /\ cap <= maxLen := by
  obtain ⟨_, _, hr, _⟩ := h
  exact hr.form
theorem SymssAt.at {w : World} {a : Option Addr} {c : Nat} {l : List (List Sym)} (h : SymssAt w (.slice a l.length c) l) {k : Nat} (hk : k < l.length) :
    ∃ b off u, a = some ⟨b, off, none⟩ /\ b < w.heap.size /\ w.cell? ⟨b, off + k, none⟩ = some u /\ SymsAt w u l[k] := by
  obtain ⟨us, hl, hr, hs⟩ := h
  obtain ⟨b, off, e, hb, hc⟩ := hr.at (by omega)
  exact ⟨b, off, us[k], e, hb, hc k _ (List.getElem?_eq_getElem (by omega)), hs k hk (by omega)⟩
def total (l : List (List Sym)) : Nat := l.flatten.length
theorem total_take_succ {l : List (List Sym)} {k : Nat} (h : k < l.length) : total (l.take (k + 1)) = total (l.take k) + l[k].length /\ (l.take (k + 1)).flatten = (l.take k).flatten ++ l[k] := by
  unfold total
  rw [List.take_succ_eq_append_getElem h, List.flatten_append, List.length_append]
  simp
theorem zq83 (l : List (List Sym)) (k : Nat) : total (l.take k) <= total l := by
  unfold total
  conv => rhs; rw [<- List.take_append_drop k l, List.flatten_append, List.length_append]
  omega
set_option maxHeartbeats 1000000 in
theorem concat_any (v : Value) (l : List (List Sym)) (w : World) (h : SymssAt w v l) (hn : total l <= 1099511627776) :
    Calls Tryz.prog 77 #[v] w fun e w' => ∃ u, e = .returned u /\ w'.ownsRow w.heap.size 39 2 u l.flatten.length (symsC l.flatten) /\ Below w.heap.size w w' := by
  obtain ⟨a, cap, rfl, h2, h3⟩ := h.form
  unfold maxLen at h3
  go_enter Tryz.func77, Tryz.ntmps77
  go_wp2
  go_loop [3, 11] (fun s i => ∃ k : Nat, k <= l.length /\ i = .int .i64 k /\ s = .int .i64 (total (l.take k) : Nat)) (fun _ i => l.length - (intOf i).toNat)
  case atStart => exact ⟨0, Nat.zero_le _, rfl, rfl⟩
  case round =>
    obtain ⟨k, hk, rfl, rfl⟩ := hrel
    have ht0 := zq83 l k
    by_cases hlt : k < l.length
    · obtain ⟨b, off, u, rfl, hb, hc, hu⟩ := h.at hlt
      have ht := (total_take_succ hlt).1
      have ht1 := zq83 l (k + 1)
      have HT := hidep ht
      have hle : total (l.take k) + l[k].length <= total l := by omega
      clear ht
      obtain ⟨a', cap', hv, hu2, hu3⟩ := hu.form
      clear hu h
      generalize l[k].length = m at *
      subst hv
      go_wp2
      go_round
      case rel => exact ⟨k + 1, by omega, by go_num, congrArg _ (by rw [HT.out]; omega)⟩
      case measure => simp [intOf]; omega
    · have hkl : k = l.length := by omega
      have HK := hidep hkl
      have htl : Hid (l.take k = l) := hidep (by rw [hkl, List.take_length])
      clear hkl
      rw [htl.out]
      generalize hN : total l = N at *
      have HN := hidep hN
      clear hN ht0
      go_wp2_with (go_at_call 118; refine (grow_any N _ (by omega)).mono ?_; rintro e w1 ⟨v1, rfl, hown1, hb1⟩)
      go_loopw [6, 27] (fun o i wr => ∃ k : Nat, k <= l.length /\ i = .int .i64 k /\ wr.ownsRow w.heap.size 39 2 o (l.take k).flatten.length (symsC (l.take k).flatten) /\ Below w.heap.size w wr) (fun _ i _ => l.length - (intOf i).toNat)
      case atStart => exact ⟨0, Nat.zero_le _, rfl, hown1, hb1⟩
      case round =>
        obtain ⟨k, hk, rfl, hown, hbw⟩ := hrel
        by_cases hlt : k < l.length
        · obtain ⟨b, off, u, rfl, hb, hc, hu⟩ := (h.below hbw).at hlt
          have ht := (total_take_succ hlt)
          have ht1 := zq83 l (k + 1)
          have HT := hidep ht.2
          have hle : (l.take k).flatten.length + l[k].length <= N := by have := HN.out; have := ht.1; unfold total at *; omega
          clear ht
          have hone := zqbe l[k]
          go_wp2_with (at_builtin; refine zq4 _ rfl (.tmp 31) (.tmp 32) rfl zq48 w.heap.size _ _ _ rfl hown _ _ _ _ rfl hu hone (by unfold maxLen; omega) (by omega) hbw.size ?_; intro v2 w2 hown2 hgr2 _ _)
          go_roundw
          case rel => exact ⟨k + 1, by omega, by go_num, by rw [HT.out, zq2c, List.length_append]; exact hown2, hbw.grown hgr2 hbw.size (fun g hg => (hown.lt g hg).1)⟩
          case measure => simp [intOf]; omega
        · have hkl : k = l.length := by omega
          have htl : Hid (l.take k = l) := hidep (by rw [hkl, List.take_length])
          clear hkl
          rw [htl.out] at hown
          go_wp2
          go_ret
          exact ⟨_, rfl, hown, hbw⟩
end Go.Proofs.YtcfjepcflanjbaaGreat
