/- Contracts of package table: Runs and Symbols: the runs of a text have its characters. -/
import Derived.Laws.Runes
import Derived.Test.YthdafajhohdkoaaRefC
import Derived.Test.YthdafajhohdkoaaMgK
import Derived.Test.YthdafajhohdkoaaMgU
namespace Go.Proofs.Ythdafajhohdkoaa
open Go.RowKit Go.Lab
set_option maxHeartbeats 400000 in
theorem twritten_any (c : Int) (w : World) : Calls Try.prog 47 #[.int .u8 c] w fun e w' => e = .returned (.bool (writtenB c)) ∧ w = w' := by
  go_enter Try.func47, Try.ntmps47
  go_wp2
  all_goals
    go_ret
    refine ⟨ret_val (congrArg Value.bool ?_), rfl⟩
    simp [writtenB]
    try omega
set_option maxHeartbeats 400000 in
theorem tsym_any (lang c : Int) (w : World) :
    Calls Try.prog 48 #[.agg #[.int .i64 lang, .int .u8 c]] w fun e w' => e = .returned (.bool (goodB ⟨lang, c⟩)) ∧ Below w.heap.size w w' := by
  have HB := hidep (show ∀ l, Below w.heap.size w (w.alloc (.cells #[.int .i64 l, .int .u8 c] 34)) from fun l => (Below.refl _ _).alloc (Nat.le_refl _) _)
  have HR : Hid (∀ (lang : Int) (b : Bool), (((lang = 0 ∨ lang = 1) ∧ writtenB c = true) ↔ b = true) → b = goodB ⟨lang, c⟩) := hidep (fun lang b hb => by
    rw [Bool.eq_iff_iff, ← hb]; simp only [goodB, Bool.and_eq_true, decide_eq_true_eq]; exact ⟨fun ⟨h1, h2⟩ => ⟨by omega, h2⟩, fun ⟨h1, h2⟩ => ⟨by omega, h2⟩⟩)
  go_enter Try.func48, Try.ntmps48
  go_wp2_with (go_at_call 47; refine (twritten_any _ _).mono ?_; rintro e w1 ⟨rfl, rfl⟩)
  all_goals
    go_ret
    refine ⟨ret_val (congrArg Value.bool (HR.out _ _ ?_)), HB.out _⟩
    simp
    try omega
/-- A run: a language, and a text as bytes. -/
structure TRun where
  lang : Int
  text : ByteArray
def trunC (r : TRun) : List Value := [.int .i64 r.lang, .string r.text]
def trunsC (l : List TRun) : List Value := l.flatMap trunC
theorem trunsC_append (a b : List TRun) : trunsC (a ++ b) = trunsC a ++ trunsC b := by simp [trunsC]
theorem trunsC_len (l : List TRun) : (trunsC l).length = l.length * 2 := by
  induction l with
  | nil => rfl
  | cons a l ih => simp [trunsC, trunC] at *; omega
theorem trunsC_one (l : List TRun) : ∀ u ∈ trunsC l, u.oneCell' = true := by
  intro u hu
  obtain ⟨x, _, hx⟩ := List.mem_flatMap.1 hu
  simp [trunC] at hx
  rcases hx with rfl | rfl <;> rfl
theorem trunsC_get (l : List TRun) (i : Nat) (h : i < l.length) : (trunsC l)[i * 2]? = some (.int .i64 l[i].lang) ∧ (trunsC l)[i * 2 + 1]? = some (.string l[i].text) := by
  induction l generalizing i with
  | nil => simp at h
  | cons a l ih =>
    cases i with
    | zero => simp [trunsC, trunC]
    | succ i =>
      have := ih i (by simpa using h)
      have e : (i + 1) * 2 = i * 2 + 1 + 1 := by omega
      simpa [trunsC, trunC, e] using this
theorem trunsC_set (l : List TRun) (r : TRun) (s : ByteArray) : (trunsC (l ++ [r])).set (l.length * 2 + 1) (.string s) = trunsC (l ++ [⟨r.lang, s⟩]) := by
  rw [trunsC_append, trunsC_append, List.set_append_right _ _ (by rw [trunsC_len]; omega), trunsC_len]
  have : l.length * 2 + 1 - l.length * 2 = 1 := by omega
  rw [this]
  rfl
def unrun (r : TRun) : List Sym := (bytesL r.text).map (Sym.mk r.lang)
def unruns (l : List TRun) : List Sym := l.flatMap unrun
theorem unruns_append (a b : List TRun) : unruns (a ++ b) = unruns a ++ unruns b := by simp [unruns]
def TRunsAt (w : World) (v : Value) (l : List TRun) : Prop := Rd w (· = 79) 2 v l.length (trunsC l)
theorem slRuns : SlT Try.prog 57 79 (.agg #[.int .i64 0, .string ByteArray.empty]) 2 24 := ⟨by kernel_rfl, by kernel_rfl, rfl, by decide⟩
theorem encode_ascii {c : Int} (h1 : 32 ≤ c) (h2 : c ≤ 126) : bytesL (Utf8.encode c) = [c] := by
  obtain ⟨n, rfl⟩ : ∃ n : Nat, c = (n : Int) := ⟨c.toNat, by omega⟩
  have hv : Utf8.valid (n : Int) = true := by rw [validRune_eq]; unfold validRune; exact decide_eq_true (Or.inl (by omega))
  unfold Utf8.encode
  simp only [hv, if_true]
  rw [if_pos (by omega)]
  simp [bytesL]
  omega
theorem bytesL_append (a b : ByteArray) : bytesL (a ++ b) = bytesL a ++ bytesL b := by simp [bytesL, ByteArray.data_append]
theorem unrun_push (r : TRun) {c : Int} (h1 : 32 ≤ c) (h2 : c ≤ 126) : unrun ⟨r.lang, r.text ++ Utf8.encode c⟩ = unrun r ++ [⟨r.lang, c⟩] := by
  unfold unrun
  simp only
  rw [bytesL_append, encode_ascii h1 h2]
  simp
theorem unrun_one (lang : Int) {c : Int} (h1 : 32 ≤ c) (h2 : c ≤ 126) : unrun ⟨lang, Utf8.encode c⟩ = [⟨lang, c⟩] := by
  unfold unrun
  simp only
  rw [encode_ascii h1 h2]
  rfl
open Go.RowKit Go.Lab
theorem box2_cell0 {w : World} {B : Nat} {t : TypeId} {x y : Value} {f : Nat × Nat} (h : w.heap[B]? = some (.cells #[x, y] t f)) : w.cell? ⟨B, 0, none⟩ = some x ∧ w.cell? ⟨B, 1, none⟩ = some y := by
  constructor <;> simp [World.cell?, h]
theorem goodB_parts {lang c : Int} (h : goodB ⟨lang, c⟩ = true) : (lang = 0 ∨ lang = 1) ∧ 32 ≤ c ∧ c ≤ 126 := by
  simp only [goodB, writtenB, Bool.and_eq_true, decide_eq_true_eq] at h
  omega
set_option maxRecDepth 100000 in
set_option maxHeartbeats 2000000 in
theorem runs_any (v : Value) (l : List Sym) (w : World) (h : SymsAt w v l) (hg : l.all goodB = true) (hl : l.length ≤ 2048) :
    Calls Try.prog 26 #[v] w fun e w' => ∃ u rs, e = .returned u ∧ TRunsAt w' u rs ∧ unruns rs = l ∧ (∀ r ∈ rs, r.lang = 0 ∨ r.lang = 1) ∧ rs.length ≤ 2048 ∧ Below w.heap.size w w' := by
  obtain ⟨a, cap, rfl, hc, hm⟩ := h.form
  unfold maxLen at hm
  have HG := hidep (List.all_eq_true.1 hg)
  have H0 := hidep h
  clear h hg
  go_enter Try.func26, Try.ntmps26
  go_wp2
  go_loopw [3, 9] (fun o i wr => ∃ (k : Nat) (rs : List TRun), k ≤ l.length ∧ i = .int .i64 k ∧ wr.ownsRow w.heap.size 79 2 o rs.length (trunsC rs) ∧ rs.length ≤ k ∧ Hid (unruns rs = l.take k) ∧ Hid (∀ r ∈ rs, r.lang = 0 ∨ r.lang = 1) ∧ Below w.heap.size w wr) (fun _ i _ => l.length - (intOf i).toNat)
  case atStart => exact ⟨0, [], Nat.zero_le _, rfl, World.ownsRow_nil _ _ _ _, Nat.le_refl _, hidep rfl, hidep (fun _ h => by cases h), Below.refl _ _⟩
  case round =>
    obtain ⟨k, rs, hk, rfl, hown, hrk, HU, HLA, hbw⟩ := hrel
    have HRK := hidep hrk
    have hrl : rs.length ≤ 2048 := by omega
    clear hrk
    obtain ⟨wo, hwo⟩ : ∃ wo : World, wo = wr := ⟨_, rfl⟩
    subst hwo
    by_cases hlt : k < l.length
    · obtain ⟨b, off, rfl, hb, hx0, hx1⟩ := (H0.out.below hbw).at hlt
      have hgd := HG.out _ (List.getElem_mem hlt)
      have HT := hidep (List.take_succ_eq_append_getElem hlt)
      generalize l[k] = x at *
      obtain ⟨lang, c⟩ := x
      simp only at hx0 hx1
      obtain ⟨hlang, hc1, hc2⟩ := goodB_parts hgd
      have HSY := hidep (tsym_any lang c (wo.alloc (.cells #[.int .i64 lang, .int .u8 c] 34)))
      rw [hgd] at HSY
      have HN := hidep (heap_alloc_new wo (.cells #[.int .i64 lang, .int .u8 c] 34))
      have hA := (show Below wo.heap.size wo (wo.alloc (.cells #[.int .i64 lang, .int .u8 c] 34)) from (Below.refl _ _).alloc (Nat.le_refl _) _)
      have HA := hidep hA
      have HOW := hidep hown
      have HLG := hidep hlang
      clear hA hown hgd hlang
      obtain ⟨ao, co, rfl, _, _⟩ := (Rd.of_own HOW.out).form
      go_upto_region 7 with (first
        | (go_at_call 48; (with_reducible refine HSY.out.mono ?_); rintro e w1 ⟨rfl, hb1⟩)
        | fail)
      have HB1 := hidep (HA.out.trans (hb1.mono (by simp)))
      have h5 := (hb1.block _ (by simp)).trans HN.out
      obtain ⟨q0, q1⟩ := box2_cell0 h5
      have hown1 := ownR_below0 HOW.out HB1.out
      have HBW := hidep (hbw.trans (HB1.out.mono hbw.size))
      have hl5 := lt_of_block h5
      have HL5 := hidep (fun g (hg : (Value.slice ao rs.length co).ownBlock = some g) => (HOW.out.lt g hg))
      clear h5 hb1 hx0 hx1 hb
      have h16 : IntKind.u8.wrap c = c := by unfold IntKind.wrap; simp [IntKind.bits, IntKind.signed]; omega
      rcases List.eq_nil_or_concat rs with rfl | ⟨r0, r, hrs⟩
      · simp only [List.length_nil] at hown1 ⊢
        have hfr := Rd.fresh w1 #[.int .i64 lang, .string (Utf8.encode c)] 79 2 1 rfl (by decide)
        have hoa := hown1.alloc (.cells #[.int .i64 lang, .string (Utf8.encode c)] 79)
        go_upto_region 8 with (fail)
        go_quiet (fail)
        go_wp2_with (first
          | (at_builtin; refine wpList_append_rd _ rfl (.tmp 43) (.tmp 50) rfl slRuns w.heap.size (.slice ao 0 co) _ _ rfl hoa _ _ _ _ rfl hfr (by intro u hu; simp at hu; rcases hu with rfl | rfl <;> rfl) (by unfold maxLen; omega) (by omega) (by have := HBW.out.size; simp; omega) ?_; intro v2 w2 hown2 hgr2 hat hnl; clear hat hnl hfr)
          | fail)
        go_roundw
        case rel => exact ⟨k + 1, [⟨lang, Utf8.encode c⟩], by omega, by go_num, by simpa [trunsC, trunC] using hown2, by simp, hidep (by rw [HT.out, ← HU.out]; simp [unruns, unrun_one lang hc1 hc2]), hidep (fun r hr => by rw [List.mem_singleton] at hr; rw [hr]; exact HLG.out), ((below_drewN HBW.out _).alloc HBW.out.size _).grown hgr2 (by have := HBW.out.size; simp; omega) (fun g hg => (HL5.out g hg).1)⟩
        case measure => simp [intOf]; omega
      · rw [List.concat_eq_append] at hrs
        subst hrs
        obtain ⟨g, cg, hsl, hg, hgc, hgm, hrow⟩ := RowAt.of_own hown1 (by simp)
        injection hsl with hsa _ hsc
        subst hsa hsc
        have hgt := trunsC_get (r0 ++ [r]) r0.length (by simp)
        have hgt0 : (trunsC (r0 ++ [r]))[r0.length * 2]? = some (.int .i64 r.lang) := by simpa using hgt.1
        have hgt1 : (trunsC (r0 ++ [r]))[r0.length * 2 + 1]? = some (.string r.text) := by simpa using hgt.2
        have hr0 := hrow.cell hgt0
        have hr1 := hrow.cell hgt1
        have hrf := hrow.free (r0.length * 2 + 1)
        have HST := hidep (fun s => (World.ownsRow.stored hown1 (r0.length * 2 + 1) (.string s)))
        have hll : (r0 ++ [r]).length = r0.length + 1 := by simp
        have HSET := hidep (fun s => trunsC_set r0 r s)
        have hlm := HLA.out r (by simp)
        have HLA0 := hidep (fun q (hq : q ∈ r0) => HLA.out q (by simp [hq]))
        have HU0 : Hid (unruns r0 ++ unrun r = l.take k) := hidep (by have := HU.out; rw [unruns_append] at this; simpa [unruns] using this)
        rw [hll] at hown1 hrl HST HRK HL5 ⊢
        have hglt : g < wo.heap.size := (HL5.out g rfl).2
        have hneg : wo.heap.size ≠ g := by omega
        clear hgt hgt0 hgt1 hll HU HLA
        obtain ⟨m, hm0⟩ : ∃ m, r0.length = m := ⟨_, rfl⟩
        rw [hm0] at hown1 hrl HST HRK hr0 hr1 hrf HSET ⊢
        have HM := hidep hm0
        have hwm : IntKind.i64.wrap ((m : Int) + 1 - 1) = (m : Int) := by rw [show (m : Int) + 1 - 1 = (m : Int) by omega]; exact IntWalk.i64_in _ (by omega)
        have hm1 : (0 : Int) < (m : Int) + 1 := by omega
        have hm2 : (m : Int) < (m : Int) + 1 := by omega
        have hm3 : (0 : Int) ≤ (m : Int) := by omega
        have HOW1 := hidep hown1
        obtain ⟨c5, hc5⟩ : ∃ c5, wo.heap.size = c5 := ⟨_, rfl⟩
        rw [hc5] at q0 q1 hl5 hneg ⊢
        clear hm0 HOW hrow hown1 hglt HSY HN hc5 HL5
        obtain ⟨rl, rt⟩ := r
        simp only at hr0 hr1 hlm HU0 HST HSET
        have hsz : rt.size ≤ 2048 := by
          have h0 := congrArg List.length HU0.out
          rw [List.length_append, List.length_take] at h0
          unfold unrun at h0
          rw [List.length_map, bytesL_len] at h0
          simp only at h0
          omega
        have hse : (Utf8.encode c).size = 1 := by rw [← bytesL_len, encode_ascii hc1 hc2]; rfl
        have hadd : ∀ W : World, (Op.stringOp .add rt (Utf8.encode c)).run Try.prog W = .ok (.string (rt ++ Utf8.encode c)) W := fun W => run_string_add_sum (P := Try.prog) W rt (Utf8.encode c) (by rw [hse]; omega)
        have hwm2 : IntKind.i64.wrap (m : Int) = (m : Int) := IntWalk.i64_in _ (by omega)
        clear hse
        by_cases hll : rl = lang
        · subst hll
          go_upto_region 8 with (fail)
          go_quiet (fail)
          go_upto_region 9 with (fail)
          go_region
          all_goals
            go_wp2
            go_roundw
            case rel => exact ⟨k + 1, r0 ++ [⟨rl, rt ++ Utf8.encode c⟩], by omega, by go_num, (by rw [← HSET.out, List.length_append, HM.out]; exact (HST.out _).1), by have := HRK.out; simp; rw [HM.out]; omega, hidep (by
              have h0 := unrun_push ⟨rl, rt⟩ hc1 hc2
              simp only at h0
              rw [HT.out, ← HU0.out, unruns_append]
              simp [unruns, h0]), hidep (fun q hq => by
              rcases List.mem_append.1 hq with hq | hq
              · exact HLA0.out q hq
              · rw [List.mem_singleton] at hq; rw [hq]; exact hlm), (below_drewN HBW.out _).setCell (p := ⟨g, m * 2 + 1, none⟩) hg _⟩
            case measure => simp [intOf]; omega
        · have hll1 : (rl == lang) = false := by simpa using hll
          have hfr := Rd.fresh w1 #[.int .i64 lang, .string (Utf8.encode c)] 79 2 1 rfl (by decide)
          have hoa := HOW1.out.alloc (.cells #[.int .i64 lang, .string (Utf8.encode c)] 79)
          go_upto_region 8 with (fail)
          go_quiet (fail)
          go_wp2_with (first
            | (at_builtin; refine wpList_append_rd _ rfl (.tmp 43) (.tmp 50) rfl slRuns w.heap.size (.slice (some ⟨g, 0, none⟩) (m + 1) co) _ _ rfl hoa _ _ _ _ rfl hfr (by intro u hu; simp at hu; rcases hu with rfl | rfl <;> rfl) (by unfold maxLen; omega) (by omega) (by have := HBW.out.size; simp; omega) ?_; intro v2 w2 hown2 hgr2 hat hnl; clear hat hnl hfr)
            | fail)
          go_roundw
          case rel => exact ⟨k + 1, r0 ++ [⟨rl, rt⟩] ++ [⟨lang, Utf8.encode c⟩], by omega, by go_num, by rw [trunsC_append, List.length_append, List.length_append, HM.out]; exact hown2, by have := HRK.out; simp; rw [HM.out]; omega, hidep (by rw [HT.out, ← HU0.out, unruns_append, unruns_append]; simp [unruns, unrun_one lang hc1 hc2]), hidep (fun q hq => by
              rcases List.mem_append.1 hq with hq | hq
              · rcases List.mem_append.1 hq with hq | hq
                · exact HLA0.out q hq
                · rw [List.mem_singleton] at hq; rw [hq]; exact hlm
              · rw [List.mem_singleton] at hq; rw [hq]; exact HLG.out), ((below_drewN HBW.out _).alloc HBW.out.size _).grown hgr2 (by have := HBW.out.size; simp; omega) (fun g hg => (HOW1.out.lt g hg).1)⟩
          case measure => simp [intOf]; omega
    · have hkl : k = l.length := by omega
      subst hkl
      have HE : Hid (unruns rs = l) := hidep (by have := HU.out; rwa [List.take_length] at this)
      go_wp2
      go_ret
      exact ⟨_, rs, rfl, Rd.of_own hown, HE.out, HLA.out, hrl, hbw⟩
theorem unruns_take {l : List TRun} {k : Nat} (h : k < l.length) : unruns (l.take (k + 1)) = unruns (l.take k) ++ unrun l[k] := by
  rw [List.take_succ_eq_append_getElem h, unruns_append]
  simp [unruns]
theorem TRunsAt.at {w : World} {a : Option Addr} {c : Nat} {l : List TRun} (h : TRunsAt w (.slice a l.length c) l) {k : Nat} (hk : k < l.length) :
    ∃ b off, a = some ⟨b, off, none⟩ ∧ b < w.heap.size ∧ w.cell? ⟨b, off + k * 2, none⟩ = some (.int .i64 l[k].lang) ∧ w.cell? ⟨b, off + k * 2 + 1, none⟩ = some (.string l[k].text) := by
  obtain ⟨b, off, e, hb, hc⟩ := Rd.at h (by omega)
  have := trunsC_get l k hk
  exact ⟨b, off, e, hb, hc _ _ this.1, hc (k * 2 + 1) _ this.2⟩
theorem unrun_len (r : TRun) : (unrun r).length = r.text.size := by unfold unrun; rw [List.length_map, bytesL_len]
theorem unrun_get (r : TRun) {j : Nat} (h : j < r.text.size) : (unrun r)[j]'(by rw [unrun_len]; exact h) = ⟨r.lang, ((r.text[j]'h).toNat : Int)⟩ := by
  unfold unrun
  rw [List.getElem_map, bytesL_get]
theorem unrun_take (r : TRun) {j : Nat} (h : j < r.text.size) : (unrun r).take (j + 1) = (unrun r).take j ++ [⟨r.lang, ((r.text[j]'h).toNat : Int)⟩] := by
  rw [List.take_succ_eq_append_getElem (by rw [unrun_len]; exact h), unrun_get r h]
theorem unruns_mem {l : List TRun} {r : TRun} (h : r ∈ l) : ∀ x ∈ unrun r, x ∈ unruns l := fun _ hx => List.mem_flatMap.2 ⟨r, h, hx⟩
theorem unruns_take_le (l : List TRun) (k : Nat) : (unruns (l.take k)).length ≤ (unruns l).length := by
  have : unruns l = unruns (l.take k) ++ unruns (l.drop k) := by rw [← unruns_append, List.take_append_drop]
  rw [this, List.length_append]
  omega
set_option maxRecDepth 100000 in
set_option maxHeartbeats 2000000 in
theorem symbols_any (v : Value) (rs : List TRun) (w : World) (h : TRunsAt w v rs) (hlang : ∀ r ∈ rs, r.lang = 0 ∨ r.lang = 1) (hg : (unruns rs).all goodB = true) (hl : (unruns rs).length ≤ 2048) :
    Calls Try.prog 25 #[v] w fun e w' => ∃ u, e = .returned (.tuple #[u, .int .i64 0]) ∧ SymsAt w' u (unruns rs) ∧ Below w.heap.size w w' := by
  obtain ⟨a, cap, rfl, hc, hm⟩ := Rd.form h
  unfold maxLen at hm
  have HG := hidep (List.all_eq_true.1 hg)
  have H0 := hidep h
  have HLA := hidep hlang
  clear h hg hlang
  go_enter Try.func25, Try.ntmps25
  go_wp2
  go_loopw [4, 14] (fun n i wr => ∃ k : Nat, k ≤ rs.length ∧ i = .int .i64 k ∧ n = .int .i64 ((unruns (rs.take k)).length : Nat) ∧ Below w.heap.size w wr) (fun _ i _ => rs.length - (intOf i).toNat)
  case atStart => exact ⟨0, Nat.zero_le _, rfl, rfl, Below.refl _ _⟩
  case round =>
    obtain ⟨k, hk, rfl, rfl, hbw⟩ := hrel
    obtain ⟨wo, hwo⟩ : ∃ wo : World, wo = wr := ⟨_, rfl⟩
    subst hwo
    have hle := unruns_take_le rs k
    by_cases hlt : k < rs.length
    · obtain ⟨b, off, rfl, hb, hx0, hx1⟩ := (TRunsAt.at (H0.out.below hbw) hlt)
      have hT := congrArg List.length (unruns_take hlt)
      have hle2 := unruns_take_le rs (k + 1)
      have hmem := List.getElem_mem hlt
      have hlg := HLA.out _ hmem
      have HGD := hidep (fun (x : Sym) hx => HG.out x (unruns_mem hmem x hx))
      rw [List.length_append, unrun_len] at hT
      have HT := hidep hT
      have hbd : (unruns (rs.take k)).length + rs[k].text.size ≤ 2048 := by omega
      clear hT hmem hle2 hle
      generalize rs[k] = r at *
      obtain ⟨rl, rt⟩ := r
      simp only at hx0 hx1 hlg hbd HT
      generalize (unruns (rs.take k)).length = n0 at *
      have HN := hidep (heap_alloc_new wo (.cells #[.int .i64 rl, .string rt] 79))
      have HA := hidep (show Below wo.heap.size wo (wo.alloc (.cells #[.int .i64 rl, .string rt] 79)) from (Below.refl _ _).alloc (Nat.le_refl _) _)
      have HGJ : Hid (∀ (j : Nat) (hj : j < rt.size), writtenB ((rt[j]'hj).toNat : Int) = true) := hidep (fun j hj => by
        have h0 := HGD.out _ (List.getElem_mem (l := unrun ⟨rl, rt⟩) (n := j) (by rw [unrun_len]; exact hj))
        rw [unrun_get ⟨rl, rt⟩ hj] at h0
        unfold goodB at h0
        simp only [Bool.and_eq_true] at h0
        exact h0.2)
      rcases hlg with rfl | rfl
      all_goals
        go_wp2
        go_loopw [29] (fun i wi => ∃ j : Nat, j ≤ rt.size ∧ i = .int .i64 j ∧ wi.heap[wo.heap.size]? = some (.cells #[.int .i64 _, .string rt] 79 (0, 0)) ∧ Below wo.heap.size wo wi) (fun i _ => rt.size - (intOf i).toNat)
        case atStart => exact ⟨0, Nat.zero_le _, rfl, HN.out, HA.out⟩
        case round =>
          obtain ⟨j, hj, rfl, h6, hbi⟩ := hrel
          obtain ⟨q0, q1⟩ := box2_cell0 h6
          have HH6 := hidep h6
          clear h6
          by_cases hlj : j < rt.size
          · have hwb := HGJ.out j hlj
            have hj1 : (j : Int) < (rt.size : Int) := by omega
            have hj0 : (0 : Int) ≤ (j : Int) := by omega
            have HWR := hidep (fun W => twritten_any ((rt[j]'hlj).toNat : Int) W)
            rw [hwb] at HWR
            clear hwb
            go_wp2_with (first
              | (go_at_call 47; refine (HWR.out _).mono ?_; rintro e w1 ⟨rfl, rfl⟩)
              | fail)
            go_roundw
            case rel => exact ⟨j + 1, by omega, by go_num, HH6.out, hbi⟩
            case measure => simp [intOf]; omega
          · have hjl : j = rt.size := by omega
            subst hjl
            go_wp2
            go_roundw
            case rel => exact ⟨k + 1, by omega, by go_num, by rw [HT.out]; go_num, hbw.trans (hbi.mono hbw.size)⟩
            case measure => simp [intOf]; omega
    · have hkl : k = rs.length := by omega
      subst hkl
      rw [List.take_length]
      have htot : (((unruns rs).length : Nat) : Int) ≤ 2048 := by omega
      go_wp2
      go_loopw [8, 49] (fun o i wr => ∃ k : Nat, k ≤ rs.length ∧ i = .int .i64 k ∧ wr.ownsRow wo.heap.size 34 2 o (unruns (rs.take k)).length (symsC (unruns (rs.take k))) ∧ Below wo.heap.size wo wr) (fun _ i _ => rs.length - (intOf i).toNat)
      case atStart => exact ⟨0, Nat.zero_le _, rfl, World.ownsRow_nil _ _ _ _, Below.refl _ _⟩
      case round =>
        obtain ⟨k, hk, rfl, hown, hb2⟩ := hrel
        obtain ⟨wq, hwq⟩ : ∃ wq : World, wq = wr := ⟨_, rfl⟩
        subst hwq
        have hbq := hbw.trans (hb2.mono hbw.size)
        obtain ⟨ao, co, rfl, _, _⟩ := (Rd.of_own hown).form
        by_cases hlt : k < rs.length
        · obtain ⟨b, off, rfl, hb, hx0, hx1⟩ := (TRunsAt.at (H0.out.below hbq) hlt)
          have HTK := hidep (unruns_take hlt)
          have hle2 := unruns_take_le rs (k + 1)
          have hT := congrArg List.length HTK.out
          rw [List.length_append] at hT
          have hbd : (unruns (rs.take k)).length + (unrun rs[k]).length ≤ 2048 := by omega
          clear hT hle2
          generalize rs[k] = r at *
          have hul := unrun_len r
          have HUG := hidep (fun j (hj : j < r.text.size) => unrun_take r hj)
          generalize unrun r = ur at *
          generalize unruns (rs.take k) = pre at *
          obtain ⟨rl, rt⟩ := r
          simp only at hx0 hx1 hul HUG
          have HN := hidep (heap_alloc_new wq (.cells #[.int .i64 rl, .string rt] 79))
          have HA := hidep (show Below wq.heap.size wq (wq.alloc (.cells #[.int .i64 rl, .string rt] 79)) from (Below.refl _ _).alloc (Nat.le_refl _) _)
          have HUL := hidep hul
          have hbd2 : pre.length + rt.size ≤ 2048 := by omega
          have HO1 := hidep (hown.alloc (.cells #[.int .i64 rl, .string rt] 79))
          have HOL := hidep (fun g (hg : (Value.slice ao pre.length co).ownBlock = some g) => hown.lt g hg)
          clear hul hbd hown
          go_wp2
          go_loopw [8, 56] (fun o i wi => ∃ j : Nat, j ≤ rt.size ∧ i = .int .i64 j ∧ wi.ownsRow wo.heap.size 34 2 o (pre ++ ur.take j).length (symsC (pre ++ ur.take j)) ∧ wi.heap[wq.heap.size]? = some (.cells #[.int .i64 rl, .string rt] 79 (0, 0)) ∧ Below wo.heap.size wo wi) (fun _ i _ => rt.size - (intOf i).toNat)
          case atStart => exact ⟨0, Nat.zero_le _, rfl, by simpa using HO1.out, HN.out, hb2.trans (HA.out.mono hb2.size)⟩
          case round =>
            obtain ⟨j, hj, rfl, hrow, h10, hb3⟩ := hrel
            obtain ⟨am, cm, rfl, _, _⟩ := (Rd.of_own hrow).form
            obtain ⟨q0, q1⟩ := box2_cell0 h10
            have HH := hidep h10
            clear h10
            by_cases hlj : j < rt.size
            · have hju : j < ur.length := by rw [HUL.out]; exact hlj
              have HTJ : Hid (pre ++ ur.take (j + 1) = (pre ++ ur.take j) ++ [⟨rl, ((rt[j]'hlj).toNat : Int)⟩]) := hidep (by rw [HUG.out j hlj, List.append_assoc])
              have hll : (pre ++ ur.take j).length = pre.length + j := by rw [List.length_append, List.length_take]; omega
              rw [hll] at hrow ⊢
              have HLL := hidep hll
              generalize pre ++ ur.take j = cur at *
              have hj1 : (j : Int) < (rt.size : Int) := by omega
              have hj0 : (0 : Int) ≤ (j : Int) := by omega
              have hpj : pre.length + j ≤ 2048 := by omega
              have HROW := hidep hrow
              clear hll HUG HTK
              have HK := hidep (fun (o : Obj) (W : World) (hg : (wr.alloc o).grownBy W (Value.slice am (pre.length + j) cm).ownBlock) => box2_cell0 ((Keeps.grown (T := fun t => t = 79) (HROW.out.alloc o) hg (fun t ht e => by rw [ht] at e; exact absurd e (by decide))).2 wq.heap.size _ _ _ rfl ((((Below.refl _ wr).alloc (Nat.le_refl _) o).block _ (lt_of_block HH.out)).trans HH.out)))
              have HKB := hidep (fun (o : Obj) (W : World) (hg : (wr.alloc o).grownBy W (Value.slice am (pre.length + j) cm).ownBlock) => (Keeps.grown (T := fun t => t = 79) (HROW.out.alloc o) hg (fun t ht e => by rw [ht] at e; exact absurd e (by decide))).2 wq.heap.size _ _ _ rfl ((((Below.refl _ wr).alloc (Nat.le_refl _) o).block _ (lt_of_block HH.out)).trans HH.out))
              have HB3 := hidep hb3
              obtain ⟨wz, hwz⟩ : ∃ wz : World, wz = wr := ⟨_, rfl⟩
              subst hwz
              go_upto_region 24 with (fail)
              go_region_held3 (fun w' => w'.cell? ⟨wq.heap.size, 0, none⟩ = some (.int .i64 rl) ∧ w'.cell? ⟨wq.heap.size, 1, none⟩ = some (.string rt))
                (first | exact ⟨q0, q1⟩ | exact k10 | go_keep)
                (first
                  | (refine step_append_rd _ (by rfl) (.tmp 59) (.tmp 67) (by rfl) slSyms wo.heap.size (.slice am (pre.length + j) cm) _ _ (by rfl) (by exact HROW.out.alloc _) _ _ _ _ (by rfl) (by exact (Rd.fresh _ #[.int .i64 rl, .int .u8 ((rt[j]'hlj).toNat : Int)] 34 2 1 rfl (by decide))) (by intro u hu; simp at hu; rcases hu with rfl | rfl <;> rfl) (by unfold maxLen; omega) (by omega) (by have := hb3.size; simp; omega) ?_; intro v2 w2 hown2 hgr2 hat hnl; clear hat hnl; have k10 := HK.out _ _ (by first | exact hgr2 | exact grown_undrew hgr2); dsimp only)
                  | fail)
              all_goals
                go_wp2
                go_roundw
                case rel => exact ⟨j + 1, by omega, by go_num, (by rw [HTJ.out, symsC_append, List.length_append, HLL.out]; exact hown2), (HKB.out _ _ (by first | exact hgr2 | exact grown_undrew hgr2)), (HB3.out.alloc HB3.out.size _).grown (by first | exact hgr2 | exact grown_undrew hgr2) (by have := HB3.out.size; simp; omega) (fun g hg => (HROW.out.lt g hg).1)⟩
                case measure => simp [intOf]; omega
            · have hjl : j = rt.size := by omega
              subst hjl
              have hTT : Hid (pre ++ ur.take rt.size = pre ++ ur) := hidep (by rw [← HUL.out, List.take_length])
              rw [hTT.out] at hrow ⊢
              go_wp2
              go_roundw
              case rel => exact ⟨k + 1, by omega, by go_num, by rw [HTK.out]; exact hrow, hb3⟩
              case measure => simp [intOf]; omega
        · have hkl : k = rs.length := by omega
          subst hkl
          have HE : Hid (SymsAt wq (.slice ao (unruns (rs.take rs.length)).length co) (unruns rs)) := hidep (by
            have h0 := hown
            rw [List.take_length] at h0 ⊢
            exact SymsAt.of_own h0)
          go_wp2
          go_ret2
          exact ⟨_, rfl, HE.out, hbq⟩
end Go.Proofs.Ythdafajhohdkoaa
