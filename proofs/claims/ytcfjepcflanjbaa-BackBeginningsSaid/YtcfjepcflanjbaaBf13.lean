/- Contracts: two texts are equal. -/
import Derived.Test.YtcfjepcflanjbaaBf03
namespace Go.Proofs.Ytcfjepcflanjbaa
open Go.RowKit Go.Lab
theorem eq_take_succ {α : Type} [DecidableEq α] {l m : List α} {k : Nat} (h : k < l.length) (h' : k < m.length) (e : l.take k = m.take k) (he : l[k] = m[k]) : l.take (k + 1) = m.take (k + 1) := by
  rw [List.take_succ_eq_append_getElem h, List.take_succ_eq_append_getElem h', e, he]
set_option maxHeartbeats 400000 in
theorem sameSyms_any (v u : Value) (l m : List Sym) (w : World) (h : SymsAt w v l) (h' : SymsAt w u m) :
    Calls Try.prog 16 #[v, u] w fun e w' => e = .returned (.bool (decide (l = m))) ∧ ∃ n, w' = w.drewN n := by
  obtain ⟨a, cap, rfl, h2, h3⟩ := h.form
  obtain ⟨a', cap', rfl, h2', h3'⟩ := h'.form
  unfold maxLen at h3 h3'
  by_cases hne : l.length = m.length
  · have HL := hidep hne
    have HB : Hid ((((l.length : Int)) != (m.length : Int)) = false) := hidep (by simp [hne])
    clear hne
    have hb := HB.out
    go_enter Try.func16, Try.ntmps16
    go_wp2
    clear hb
    go_loopw [5] (fun i wr => ∃ k n : Nat, k ≤ l.length ∧ i = .int .i64 k ∧ Hid (wr = w.drewN n) ∧ Hid (l.take k = m.take k)) (fun i _ => l.length - (intOf i).toNat)
    case atStart => exact ⟨0, 0, Nat.zero_le _, rfl, hidep rfl, hidep rfl⟩
    case round =>
      obtain ⟨k, n, hk, rfl, hw, he⟩ := hrel
      by_cases hlt : k < l.length
      · have hlt' : k < m.length := by have := HL.out; omega
        obtain ⟨b, off, rfl, hb, hc1, hc2⟩ := h.at hlt
        obtain ⟨b', off', rfl, hb', hc1', hc2'⟩ := h'.at hlt'
        have hw' := hw.out
        clear hw
        subst hw'
        have HB : Hid (∀ x y, l[k] = x → m[k] = y → (x = y → l.take (k + 1) = m.take (k + 1)) ∧ (x ≠ y → l ≠ m)) := by
          rintro x y rfl rfl
          exact ⟨eq_take_succ hlt hlt' he.out, fun hxy e => hxy (by subst e; rfl)⟩
        have HB := hidep (HB.out _ _ rfl rfl)
        clear h h'
        generalize l[k] = x at *
        generalize m[k] = y at *
        obtain ⟨x1, x2⟩ := x
        obtain ⟨y1, y2⟩ := y
        simp only at hc1 hc2 hc1' hc2'
        have hI : 0 ≤ (k : Int) := by omega
        have hI1 : (k : Int) < (l.length : Int) := by omega
        have hI2 : (k : Int) < (m.length : Int) := by omega
        have hE := run_neq_sym x1 x2 y1 y2
        have hG := run_guard_sym
        go_wp2
        go_quiet (fail)
        go_wp2
        · have ht : (!x1 == y1) = true ∨ (!x2 == y2) = true := by assumption
          have hne : (⟨x1, x2⟩ : Sym) ≠ ⟨y1, y2⟩ := by
            intro e; injection e with e1 e2; subst e1 e2; simp at ht
          go_ret
          exact ⟨ret_val (congrArg _ (decide_eq_false (HB.out.2 hne)).symm), _, World.drewN_drewN ..⟩
        · have ht : (!x1 == y1) = false ∧ (!x2 == y2) = false := by assumption
          have he : (⟨x1, x2⟩ : Sym) = ⟨y1, y2⟩ := by
            simp at ht; rw [ht.1, ht.2]
          go_roundw
          case rel => exact ⟨k + 1, _, by omega, by go_num, hidep rfl, hidep (HB.out.1 he)⟩
          case measure => simp [intOf]; omega
      · go_wp2
        have hkl : k = l.length := by omega
        subst hkl
        have hlm : l = m := by
          have := he.out
          rw [List.take_length, HL.out, List.take_length] at this
          exact this
        go_ret
        exact ⟨ret_val (congrArg _ (decide_eq_true hlm).symm), n, hw.out⟩
  · have HB : Hid ((((l.length : Int)) != (m.length : Int)) = true) := hidep (by simp; omega)
    have HN : Hid (l ≠ m) := hidep (fun e => hne (by rw [e]))
    clear hne
    have hb := HB.out
    go_enter Try.func16, Try.ntmps16
    go_wp2
    go_ret
    exact ⟨ret_val (congrArg _ (decide_eq_false HN.out).symm), 0, rfl⟩
end Go.Proofs.Ytcfjepcflanjbaa
/- Contract: the text made of numbers (dactylref06.Syms). -/
namespace Go.Proofs.Ytcfjepcflanjbaa
open Go.RowKit Go.Lab
def b19 : ByteArray := ⟨#[116, 104, 101, 114, 105, 110, 103, 97, 110, 100, 115, 116, 111, 117, 98, 99, 97, 102, 120]⟩
def b10 : ByteArray := ⟨#[48, 49, 50, 51, 52, 53, 54, 55, 56, 57]⟩
def b6 : ByteArray := ⟨#[32, 46, 44, 63, 39, 45]⟩
def c19 (n : Int) : Int := ([116, 104, 101, 114, 105, 110, 103, 97, 110, 100, 115, 116, 111, 117, 98, 99, 97, 102, 120] : List Int).getD (n % 19).toNat 0
def c10 (n : Int) : Int := ([48, 49, 50, 51, 52, 53, 54, 55, 56, 57] : List Int).getD (n % 10).toNat 0
def c6 (n : Int) : Int := ([32, 46, 44, 63, 39, 45] : List Int).getD (n % 6).toNat 0
theorem b19_all : ∀ m : Fin 19, ((b19[m.val]'(m.isLt)).toNat : Int) = ([116, 104, 101, 114, 105, 110, 103, 97, 110, 100, 115, 116, 111, 117, 98, 99, 97, 102, 120] : List Int).getD m.val 0 := by decide
theorem b10_all : ∀ m : Fin 10, ((b10[m.val]'(m.isLt)).toNat : Int) = ([48, 49, 50, 51, 52, 53, 54, 55, 56, 57] : List Int).getD m.val 0 := by decide
theorem b6_all : ∀ m : Fin 6, ((b6[m.val]'(m.isLt)).toNat : Int) = ([32, 46, 44, 63, 39, 45] : List Int).getD m.val 0 := by decide
theorem b19_get (n : Int) (h : (n % 19).toNat < b19.size) : ((b19[(n % 19).toNat]'h).toNat : Int) = c19 n := b19_all ⟨_, h⟩
theorem b10_get (n : Int) (h : (n % 10).toNat < b10.size) : ((b10[(n % 10).toNat]'h).toNat : Int) = c10 n := b10_all ⟨_, h⟩
theorem b6_get (n : Int) (h : (n % 6).toNat < b6.size) : ((b6[(n % 6).toNat]'h).toNat : Int) = c6 n := b6_all ⟨_, h⟩
theorem c19_rng_all : ∀ m : Fin 19, 97 ≤ ([116, 104, 101, 114, 105, 110, 103, 97, 110, 100, 115, 116, 111, 117, 98, 99, 97, 102, 120] : List Int).getD m.val 0 ∧ ([116, 104, 101, 114, 105, 110, 103, 97, 110, 100, 115, 116, 111, 117, 98, 99, 97, 102, 120] : List Int).getD m.val 0 ≤ 122 := by decide
theorem c10_rng_all : ∀ m : Fin 10, 48 ≤ ([48, 49, 50, 51, 52, 53, 54, 55, 56, 57] : List Int).getD m.val 0 ∧ ([48, 49, 50, 51, 52, 53, 54, 55, 56, 57] : List Int).getD m.val 0 ≤ 57 := by decide
theorem c6_rng_all : ∀ m : Fin 6, 32 ≤ ([32, 46, 44, 63, 39, 45] : List Int).getD m.val 0 ∧ ([32, 46, 44, 63, 39, 45] : List Int).getD m.val 0 ≤ 63 := by decide
theorem c19_rng (n : Int) : 97 ≤ c19 n ∧ c19 n ≤ 122 := c19_rng_all ⟨(n % 19).toNat, by omega⟩
theorem c10_rng (n : Int) : 48 ≤ c10 n ∧ c10 n ≤ 57 := c10_rng_all ⟨(n % 10).toNat, by omega⟩
theorem c6_rng (n : Int) : 32 ≤ c6 n ∧ c6 n ≤ 63 := c6_rng_all ⟨(n % 6).toNat, by omega⟩
def charN (n : Int) : Int :=
  if n / 12 = 12 ∨ n / 12 = 13 then c10 n else if n / 12 = 14 then c6 n else if n / 12 = 15 ∨ n / 12 = 16 then 32 else if n / 12 = 17 then c19 n - 32 else c19 n
theorem charN_rng (n : Int) : 32 ≤ charN n ∧ charN n ≤ 126 := by
  have := c19_rng n
  have := c10_rng n
  have := c6_rng n
  unfold charN
  repeat' split
  all_goals omega
def langN (lang n : Int) : Int := if n / 12 = 19 then 1 - lang else lang
theorem langN_rng {lang n : Int} (h0 : 0 ≤ lang) (h1 : lang ≤ 1) : 0 ≤ langN lang n ∧ langN lang n ≤ 1 := by
  unfold langN; split <;> omega
theorem chN_1 {n : Int} (h : (n / 12 == 12) = true) : c10 n = charN n := by unfold charN; rw [if_pos]; left; simpa using h
theorem chN_2 {n : Int} (h : (n / 12 == 13) = true) : c10 n = charN n := by unfold charN; rw [if_pos]; right; simpa using h
theorem chN_3 {n : Int} (h : (n / 12 == 14) = true) : c6 n = charN n := by
  have : n / 12 = 14 := by simpa using h
  unfold charN; rw [if_neg (by omega), if_pos this]
theorem chN_4 {n : Int} (h : (n / 12 == 15) = true) : 32 = charN n := by
  have : n / 12 = 15 := by simpa using h
  unfold charN; rw [if_neg (by omega), if_neg (by omega), if_pos (.inl this)]
theorem chN_5 {n : Int} (h : (n / 12 == 16) = true) : 32 = charN n := by
  have : n / 12 = 16 := by simpa using h
  unfold charN; rw [if_neg (by omega), if_neg (by omega), if_pos (.inr this)]
theorem chN_6 {n : Int} (h : (n / 12 == 17) = true) : c19 n - 32 = charN n := by
  have : n / 12 = 17 := by simpa using h
  unfold charN; rw [if_neg (by omega), if_neg (by omega), if_neg (by omega), if_pos this]
theorem chN_7 {n : Int} (h1 : (n / 12 == 12) = false) (h2 : (n / 12 == 13) = false) (h3 : (n / 12 == 14) = false) (h4 : (n / 12 == 15) = false) (h5 : (n / 12 == 16) = false) (h6 : (n / 12 == 17) = false) : c19 n = charN n := by
  have h1 : n / 12 ≠ 12 := by simpa using h1
  have h2 : n / 12 ≠ 13 := by simpa using h2
  have h3 : n / 12 ≠ 14 := by simpa using h3
  have h4 : n / 12 ≠ 15 := by simpa using h4
  have h5 : n / 12 ≠ 16 := by simpa using h5
  have h6 : n / 12 ≠ 17 := by simpa using h6
  unfold charN; rw [if_neg (by omega), if_neg (by omega), if_neg (by omega), if_neg (by omega)]
def words7 : List ByteArray := [⟨#[116, 104, 101]⟩, ⟨#[97, 110, 100]⟩, ⟨#[105, 110, 103]⟩, ⟨#[116, 105, 111, 110]⟩, ⟨#[98, 117, 116]⟩, ⟨#[98, 101]⟩, ⟨#[115, 116]⟩]
def wordB (n : Int) : ByteArray := words7.getD (n % 7).toNat ⟨#[]⟩
def bytesL (s : ByteArray) : List Int := s.data.toList.map fun b => (b.toNat : Int)
theorem bytesL_len (s : ByteArray) : (bytesL s).length = s.size := by unfold bytesL; rw [List.length_map]; rfl
theorem bytesL_get (s : ByteArray) (j : Nat) (h : j < s.size) : (bytesL s)[j]'(by rw [bytesL_len]; exact h) = ((s[j]'h).toNat : Int) := by
  unfold bytesL; rw [List.getElem_map]; rfl
def addW (out : List Sym) (lang : Int) (ws : List Int) : List Sym := out ++ (ws.take (24 - out.length)).map (Sym.mk lang)
def addP (out : List Sym) (lang : Int) (ws : List Int) (j : Nat) : List Sym := out ++ (ws.take j).map (Sym.mk lang)
theorem addP_zero (out : List Sym) (lang : Int) (ws : List Int) : addP out lang ws 0 = out := by simp [addP]
theorem addP_len {out : List Sym} {lang : Int} {ws : List Int} {j : Nat} (h : j ≤ ws.length) : (addP out lang ws j).length = out.length + j := by simp [addP]; omega
theorem addP_succ {out : List Sym} {lang : Int} {ws : List Int} {j : Nat} (h : j < ws.length) : addP out lang ws (j + 1) = addP out lang ws j ++ [⟨lang, ws[j]⟩] := by
  unfold addP
  rw [List.take_succ_eq_append_getElem h, List.map_append, List.append_assoc]
  rfl
theorem addP_end {out : List Sym} {lang : Int} {ws : List Int} {j : Nat} (h : j = ws.length ∧ j ≤ 24 - out.length ∨ j = 24 - out.length) : addP out lang ws j = addW out lang ws := by
  unfold addP addW
  rcases h with ⟨h, h2⟩ | h
  · rw [List.take_of_length_le (by omega), List.take_of_length_le (by omega)]
  · rw [h]
theorem words7_size : ∀ m : Fin 7, (words7.getD m.val ⟨#[]⟩).size ≤ 4 := by decide
theorem wordB_size (n : Int) : (wordB n).size ≤ 4 := words7_size ⟨(n % 7).toNat, by omega⟩
def stepO (out : List Sym) (lang n : Int) : List Sym :=
  if n / 12 = 18 then addW (out ++ [(⟨langN lang n, charN n⟩ : Sym)]) (langN lang n) (bytesL (wordB n)) else out ++ [⟨langN lang n, charN n⟩]
theorem stepO_len {out : List Sym} {lang n : Int} (h : out.length < 24) : (stepO out lang n).length ≤ 24 := by
  unfold stepO addW
  split
  · simp; omega
  · simp; omega
def symsRun : List Int → List Sym → Int → List Sym
  | [], out, _ => out
  | x :: xs, out, lang => if 24 ≤ out.length then out else symsRun xs (stepO out lang (aroundZ x 240)) (langN lang (aroundZ x 240))
def symsZ (l : List Int) : List Sym := symsRun l [] 0
theorem symsRun_step {l : List Int} {k : Nat} (h : k < l.length) {out : List Sym} {lang : Int} (ho : out.length < 24) :
    symsRun (l.drop k) out lang = symsRun (l.drop (k + 1)) (stepO out lang (aroundZ l[k] 240)) (langN lang (aroundZ l[k] 240)) := by
  rw [List.drop_eq_getElem_cons h, symsRun, if_neg (by omega)]
theorem symsRun_stop {l : List Int} {out : List Sym} {lang : Int} (ho : l = [] ∨ 24 ≤ out.length) : symsRun l out lang = out := by
  cases l with
  | nil => rfl
  | cons x xs =>
    rw [symsRun]
    rcases ho with h | h
    · cases h
    · rw [if_pos h]
theorem symsRun_len : ∀ (l : List Int) (out : List Sym) (lang : Int), out.length ≤ 24 → (symsRun l out lang).length ≤ 24
  | [], out, _, h => h
  | x :: xs, out, lang, h => by
    rw [symsRun]
    split
    · exact h
    · exact symsRun_len xs _ _ (stepO_len (by omega))
theorem symsZ_len (l : List Int) : (symsZ l).length ≤ 24 := symsRun_len l [] 0 (by simp)
set_option maxHeartbeats 1000000 in
set_option maxRecDepth 100000 in
theorem syms_any (v : Value) (l : List Int) (w : World) (h : IntsAt w v l) : 
    Calls Try.prog 7 #[v] w fun e w' => ∃ u, e = .returned u ∧ w'.ownsRow w.heap.size 49 2 u (symsZ l).length (symsC (symsZ l)) ∧ Below w.heap.size w w' := by
  obtain ⟨a, cap, rfl, hc, hm⟩ := h.1.form
  unfold maxLen at hm
  go_enter Try.func7, Try.ntmps7
  go_wp2
  go_loopg [3, 4, 5] l.length (fun g o la i wr => ∃ (k : Nat) (out : List Sym) (lang : Int), k ≤ l.length ∧ l.length - k = g ∧ i = .int .i64 k ∧ la = .int .i64 lang ∧ 0 ≤ lang ∧ lang ≤ 1 ∧ out.length ≤ 24 ∧
     wr.ownsRow w.heap.size 49 2 o out.length (symsC out) ∧ Below w.heap.size w wr ∧ Hid (symsZ l = symsRun (l.drop k) out lang))
  case atStart => exact ⟨0, [], 0, Nat.zero_le _, rfl, rfl, rfl, by omega, by omega, by simp, World.ownsRow_nil _ _ _ _, Below.refl _ _, hidep rfl⟩
  case round =>
    obtain ⟨k, out, lang, hk, hg, rfl, rfl, hl0, hl1, ho, hown, hbw, HR⟩ := hrel
    have HG := hidep hg
    clear hg
    obtain ⟨a', cap', rfl, hc', hm'⟩ := (Rd.of_own hown).form
    unfold maxLen at hm'
    by_cases hin : k < l.length ∧ out.length < 24
    · obtain ⟨hlt, hlt'⟩ := hin
      obtain ⟨b, off, rfl, hb, hcell⟩ := (h.1.below hbw).at (by omega)
      have hx := hcell k _ (intsC_get l k hlt)
      have hr := h.2 l[k] (List.getElem_mem hlt)
      obtain ⟨hr1, hr2⟩ := hr
      have HR := hidep (HR.out.trans (symsRun_step hlt hlt'))
      clear hcell h
      generalize l[k] = x at *
      obtain ⟨hn0, hn1⟩ := aroundZ_rng x 240 (by omega)
      have hi1 : 0 ≤ aroundZ x 240 % 19 ∧ aroundZ x 240 % 19 < 19 := by omega
      have hi2 : 0 ≤ aroundZ x 240 % 10 ∧ aroundZ x 240 % 10 < 10 := by omega
      have hi3 : 0 ≤ aroundZ x 240 % 6 ∧ aroundZ x 240 % 6 < 6 := by omega
      generalize hn : aroundZ x 240 = n at *
      have HN := hidep hn
      clear hn
      go_upto_if 29 with (go_at_call 11; refine (around_any _ _ _ (by omega) (by omega)).mono ?_; rintro e w' ⟨rfl, rfl⟩; rw [HN.out])
      go_cut [4] (fun s4 wc => s4 = .int .i64 (langN lang n) ∧ Hid (wr = wc))
      case first =>
        go_wp2
        · have ht : (n / 12 == 19) = true := by assumption
          go_meet
          exact ⟨congrArg _ (by unfold langN; rw [if_pos (by simpa using ht)]), hidep rfl⟩
        · have ht : (n / 12 == 19) = false := by assumption
          go_meet
          exact ⟨congrArg _ (by unfold langN; rw [if_neg (by simpa using ht)]), hidep rfl⟩
      case rest =>
        obtain ⟨rfl, hw⟩ := hcut
        have hw' := hw.out
        clear hw
        subst hw'
        go_upto_region 9 with (fail)
        go_cut [7] (fun s7 wc => s7 = .int .u8 (c19 n) ∧ Hid (wr = wc))
        case first =>
          go_wp2
          go_meet
          exact ⟨congrArg _ (b19_get n _), hidep rfl⟩
        case rest =>
          obtain ⟨rfl, hw⟩ := hcut
          have hw' := hw.out
          clear hw
          subst hw'
          have hc19 := c19_rng n
          obtain ⟨hc190, hc191⟩ := hc19
          go_upto_block 2 with (fail)
          go_cut [7] (fun s7 wc => s7 = .int .u8 (charN n) ∧ Hid (wr = wc))
          case first =>
            go_wp2
            · have t1 : (n / 12 == 12) = true := by assumption
              go_meet
              exact ⟨congrArg _ ((b10_get n _).trans (chN_1 t1)), hidep rfl⟩
            · have t1 : (n / 12 == 13) = true := by assumption
              go_meet
              exact ⟨congrArg _ ((b10_get n _).trans (chN_2 t1)), hidep rfl⟩
            · have t1 : (n / 12 == 14) = true := by assumption
              go_meet
              exact ⟨congrArg _ ((b6_get n _).trans (chN_3 t1)), hidep rfl⟩
            · have t1 : (n / 12 == 15) = true := by assumption
              go_meet
              exact ⟨congrArg _ (chN_4 t1), hidep rfl⟩
            · have t1 : (n / 12 == 16) = true := by assumption
              go_meet
              exact ⟨congrArg _ (chN_5 t1), hidep rfl⟩
            · have t1 : (n / 12 == 17) = true := by assumption
              go_meet
              exact ⟨congrArg _ (chN_6 t1), hidep rfl⟩
            · go_meet
              exact ⟨congrArg _ (chN_7 ‹_› ‹_› ‹_› ‹_› ‹_› ‹_›), hidep rfl⟩
          case rest =>
            obtain ⟨rfl, hw⟩ := hcut
            have hw' := hw.out
            clear hw
            subst hw'
            have hsz := hbw.size
            have hfr := Rd.fresh wr #[.int .i64 (langN lang n), .int .u8 (charN n)] 49 2 1 rfl (by decide)
            go_upto_if 64 with (at_builtin; refine wpList_append_rd _ rfl (.tmp 55) (.tmp 59) rfl slSyms w.heap.size (.slice a' out.length cap') _ _ rfl (hown.alloc _) _ _ _ _ rfl hfr (by intro u hu; simp at hu; rcases hu with rfl | rfl <;> rfl) (by unfold maxLen; omega) (by omega) (by simp; omega) ?_; intro v1 w1 hown1 hgr1 _ _; clear hfr)
            have hbw1 : Below w.heap.size w w1 := (hbw.alloc hsz _).grown hgr1 (by simp; omega) (fun g hg => (hown.lt g hg).1)
            have hown1' : w1.ownsRow w.heap.size 49 2 v1 (out ++ [(⟨langN lang n, charN n⟩ : Sym)]).length (symsC (out ++ [(⟨langN lang n, charN n⟩ : Sym)])) := by
              rw [symsC_append, symsC_one_, List.length_append]; exact hown1
            clear hown1 hgr1 hown hx hbw
            have hsz1 := hbw1.size
            have HO : Hid (stepO out lang n = if n / 12 = 18 then addW (out ++ [(⟨langN lang n, charN n⟩ : Sym)]) (langN lang n) (bytesL (wordB n)) else out ++ [(⟨langN lang n, charN n⟩ : Sym)]) := hidep rfl
            have ho1 : (out ++ [(⟨langN lang n, charN n⟩ : Sym)]).length ≤ 24 := by simp; omega
            generalize out ++ [(⟨langN lang n, charN n⟩ : Sym)] = out1 at *
            by_cases h18 : n / 12 = 18
            · have HO := hidep (HO.out.trans (if_pos h18))
              have ht : (n / 12 == 18) = true := by simpa using h18
              clear h18
              go_upto_region 24 with (fail)
              go_cut [9] (fun s9 wc => s9 = .string (wordB n) ∧ Hid (wc = w1.alloc (.cells #[.string ⟨#[116, 104, 101]⟩, .string ⟨#[97, 110, 100]⟩, .string ⟨#[105, 110, 103]⟩, .string ⟨#[116, 105, 111, 110]⟩, .string ⟨#[98, 117, 116]⟩, .string ⟨#[98, 101]⟩, .string ⟨#[115, 116]⟩] 9)))
              case first =>
                have h7 : n % 7 = 0 ∨ n % 7 = 1 ∨ n % 7 = 2 ∨ n % 7 = 3 ∨ n % 7 = 4 ∨ n % 7 = 5 ∨ n % 7 = 6 := by omega
                rcases h7 with h7 | h7 | h7 | h7 | h7 | h7 | h7
                all_goals
                  have HW : Hid (wordB n = words7.getD (n % 7).toNat ⟨#[]⟩) := hidep rfl
                  go_wp2
                  go_meet
                  exact ⟨congrArg _ (by rw [HW.out, h7]; rfl), hidep rfl⟩
              case rest =>
                obtain ⟨rfl, hw⟩ := hcut
                have hw' := hw.out
                clear hw
                have hbc : Below w.heap.size w wc := by rw [hw']; exact hbw1.alloc hsz1 _
                have hoc : wc.ownsRow w.heap.size 49 2 v1 out1.length (symsC out1) := by rw [hw']; exact hown1'.alloc _
                clear hw' hbw1 hown1' hsz1
                have HWS : Hid ((wordB n).size ≤ 4) := hidep (wordB_size n)
                generalize wordB n = ww at *
                have hws : ww.size < 9223372036854775807 := by have := HWS.out; omega
                go_wp2
                go_loopg [3, 10] ww.size (fun g o i wl => ∃ (j : Nat), j ≤ ww.size ∧ j ≤ 24 - out1.length ∧ ww.size - j = g ∧ i = .int .i64 j ∧
                    wl.ownsRow w.heap.size 49 2 o (addP out1 (langN lang n) (bytesL ww) j).length (symsC (addP out1 (langN lang n) (bytesL ww) j)) ∧ Below w.heap.size w wl)
                case atStart => exact ⟨0, by omega, by omega, by omega, rfl, by rw [addP_zero]; exact hoc, hbc⟩
                case round =>
                  obtain ⟨j, hj1, hj2, hj3, rfl, hol, hbl⟩ := hrel
                  have HJ := hidep hj3
                  clear hj3 hoc hbc
                  have HL : Hid (∀ j, j ≤ ww.size → (addP out1 (langN lang n) (bytesL ww) j).length = out1.length + j) := hidep (fun j hj => addP_len (by rw [bytesL_len]; exact hj))
                  have hsz2 := hbl.size
                  rw [HL.out j hj1] at hol
                  obtain ⟨a2, cap2, rfl, hc2, hm2⟩ := (Rd.of_own hol).form
                  unfold maxLen at hm2
                  by_cases hin2 : j < ww.size ∧ j < 24 - out1.length
                  · obtain ⟨hj4, hj5⟩ := hin2
                    have hfr := Rd.fresh wr #[.int .i64 (langN lang n), .int .u8 ((ww[j]'hj4).toNat)] 49 2 1 rfl (by decide)
                    have HA : Hid (symsC (addP out1 (langN lang n) (bytesL ww) (j + 1)) = symsC (addP out1 (langN lang n) (bytesL ww) j) ++ [.int .i64 (langN lang n), .int .u8 ((ww[j]'hj4).toNat)]) :=
                      hidep (by rw [addP_succ (by rw [bytesL_len]; exact hj4), symsC_append, symsC_one_, bytesL_get])
                    go_wp2_with (at_builtin; refine wpList_append_rd _ rfl (.tmp 81) (.tmp 87) rfl slSyms w.heap.size (.slice a2 (out1.length + j) cap2) _ _ rfl (hol.alloc _) _ _ _ _ rfl hfr (by intro u hu; simp at hu; rcases hu with rfl | rfl <;> rfl) (by unfold maxLen; omega) (by omega) (by simp; omega) ?_; intro v2 w2 hown2 hgr2 _ _; clear hfr)
                    go_roundg (ww.size - (j + 1))
                    case measure => have := HJ.out; omega
                    case rel => exact ⟨j + 1, by omega, by omega, by have := HJ.out; omega, by go_num, by rw [HL.out _ (by omega), HA.out]; exact hown2, (hbl.alloc hsz2 _).grown hgr2 (by simp; omega) (fun g hg => (hol.lt g hg).1)⟩
                  · have hj6 : (ww.size : Int) ≤ j ∨ (24 : Int) ≤ ((out1.length + j : Nat) : Int) := by omega
                    have HE : Hid (addP out1 (langN lang n) (bytesL ww) j = addW out1 (langN lang n) (bytesL ww)) := hidep (addP_end (by rw [bytesL_len]; omega))
                    go_wp2
                    all_goals
                      go_roundg (l.length - (k + 1))
                      case measure => have := HG.out; omega
                      case rel => exact ⟨k + 1, _, _, by omega, by have := HG.out; omega, by go_num, rfl, (langN_rng hl0 hl1).1, (langN_rng hl0 hl1).2, stepO_len hlt', by rw [HO.out, ← HE.out, HL.out j hj1]; exact hol, hbl, HR⟩
            · have HO := hidep (HO.out.trans (if_neg h18))
              have ht : (n / 12 == 18) = false := by simpa using h18
              clear h18
              go_wp2
              go_roundg (l.length - (k + 1))
              case measure => have := HG.out; omega
              case rel => exact ⟨k + 1, stepO out lang n, _, by omega, by have := HG.out; omega, by go_num, rfl, (langN_rng hl0 hl1).1, (langN_rng hl0 hl1).2, stepO_len hlt', by rw [HO.out]; exact hown1'.alloc _, hbw1.alloc hsz1 _, HR⟩
    · have hend : symsZ l = out := by
        rw [HR.out]
        refine symsRun_stop ?_
        by_cases hk2 : k < l.length
        · right; omega
        · left; rw [List.drop_eq_nil_iff]; omega
      have HE := hidep hend
      clear hend
      have hin2 : (l.length : Int) ≤ k ∨ (24 : Int) ≤ (out.length : Int) := by omega
      go_wp2
      all_goals
        go_ret
        refine ⟨_, rfl, ?_, hbw⟩
        rw [HE.out]
        exact hown
end Go.Proofs.Ytcfjepcflanjbaa
/- Contracts of package lift: valid characters, valid edits. -/
namespace Go.Proofs.Ytcfjepcflanjbaa
open Go.RowKit Go.Lab
def badIx (l : List Sym) (k : Nat) : Option Nat := ((l.drop k).findIdx? (fun s => !goodB s)).map (· + k)
def isTextB (l : List Sym) : Bool := decide (l.length ≤ 2048) && l.all goodB
end Go.Proofs.Ytcfjepcflanjbaa
