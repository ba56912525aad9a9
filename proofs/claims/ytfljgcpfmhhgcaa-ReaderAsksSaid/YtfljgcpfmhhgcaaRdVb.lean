/- Contracts of the library at this use: slices.Equal of ints, slices.ContainsFunc over ints and over rows with the functions of Check and bounds. -/
import Derived.Shelf.Abstract
import Derived.Test.YtfljgcpfmhhgcaaRdVa
import Derived.Test.YtfljgcpfmhhgcaaRdTb
namespace Go.Proofs.Ytfljgcpfmhhgcaa
open Go.RowKit Go.Lab Go.Shelf
theorem tab_get {T : TypeId → Prop} {w : World} {a : Option Addr} {c : Nat} {rows : List (List Int)} (h : TabOf T w (.slice a rows.length c) rows) {k : Nat} (hk : k < rows.length) :
    ∃ b off u, a = some ⟨b, off, none⟩ ∧ b < w.heap.size ∧ w.cell? ⟨b, off + k, none⟩ = some u ∧ IntsOf T w u rows[k] := by
  obtain ⟨vs, hl, hr, hi⟩ := h
  obtain ⟨b, off, e, hb, hc⟩ := Rd.at hr (by omega)
  exact ⟨b, off, vs[k]'(by omega), e, hb, hc k _ (List.getElem?_eq_getElem (by omega)), hi k _ _ (List.getElem?_eq_getElem (by omega)) (List.getElem?_eq_getElem hk)⟩
set_option maxHeartbeats 400000 in
theorem ck1_any (g : Nat) (s x : Int) (w : World) (hg : w.cell? ⟨g, 1, none⟩ = some (.int .i64 s)) : Calls Try.prog 49 #[.int .i64 x, .pointer (some ⟨g, 0, none⟩)] w fun e w' => e = .returned (.bool (decide (x < s))) ∧ w = w' := by
  go_enter Try.func49, Try.ntmps49
  go_wp2
  go_ret
  exact ⟨rfl, rfl⟩
theorem beq_nat (m n : Nat) : ((m : Int) == (n : Int)) = decide (m = n) := by
  by_cases h : m = n
  · simp [h]
  · rw [decide_eq_false h]
    exact beq_false_of_ne (by omega)
set_option maxHeartbeats 400000 in
theorem bo1_any (g n m c : Nat) (a : Option Addr) (w : World) (_ : m ≤ 9223372036854775807) (hg : w.cell? ⟨g, 0, none⟩ = some (.int .i64 (n : Nat))) : Calls Try.prog 66 #[.slice a m c, .pointer (some ⟨g, 0, none⟩)] w fun e w' => e = .returned (.bool (!decide (m = n))) ∧ w = w' := by
  have he := beq_nat m n
  go_enter Try.func66, Try.ntmps66
  go_wp2
  go_ret
  exact ⟨ret_val (congrArg Value.bool (by first | rw [he] | (rw [← he]; rfl))), rfl⟩
/-- What the library's IndexFunc says of a list. -/
def IdxR {α : Type} (p : α → Bool) (l : List α) (k : Int) : Prop := (k = -1 ∧ ∀ x ∈ l, p x = false) ∨ ∃ j : Nat, ∃ h : j < l.length, k = j ∧ p l[j] = true ∧ ∀ x ∈ l.take j, p x = false
theorem IdxR.any {α : Type} {p : α → Bool} {l : List α} {k : Int} (h : IdxR p l k) : decide (0 ≤ k) = l.any p := by
  rcases h with ⟨rfl, hk⟩ | ⟨j, hj, rfl, hp, _⟩
  · symm
    rw [List.any_eq_false.2 (fun x hx => by simp [hk x hx])]
    rfl
  · rw [List.any_eq_true.2 ⟨_, List.getElem_mem hj, hp⟩]
    simp
theorem IdxR.step {α : Type} {p : α → Bool} {l : List α} {k : Nat} (hk : k < l.length) (h : ∀ x ∈ l.take k, p x = false) : (p l[k] = true → IdxR p l (k : Nat)) ∧ (p l[k] = false → ∀ x ∈ l.take (k + 1), p x = false) := by
  refine ⟨fun hp => .inr ⟨k, hk, rfl, hp, h⟩, fun hp y hy => ?_⟩
  rw [List.take_succ_eq_append_getElem hk] at hy
  rcases List.mem_append.1 hy with hy | hy
  · exact h y hy
  · simp only [List.mem_singleton] at hy
    rw [hy]
    exact hp
set_option maxHeartbeats 1000000 in
theorem idxI_any (g : Nat) (s : Int) (v : Value) (l : List Int) (w : World) (hv : IntsAt w v l) (hg : w.cell? ⟨g, 1, none⟩ = some (.int .i64 s)) :
    Calls Try.prog 67 #[v, .func (.func 49) #[] #[.pointer (some ⟨g, 0, none⟩)]] w fun e w' => (∃ k : Int, e = .returned (.int .i64 k) ∧ IdxR (fun x => decide (x < s)) l k) ∧ w = w' := by
  obtain ⟨a, c, rfl, hc, hm⟩ := hv.1.form
  unfold maxLen at hm
  have HF := hidep (fun x => ck1_any g s x w hg)
  clear hg
  go_enter Try.func67, Try.ntmps67
  go_wp2
  go_loop [8] (fun i => ∃ k : Nat, k ≤ l.length ∧ i = .int .i64 k ∧ Hid (∀ x ∈ l.take k, (fun x => decide (x < s)) x = false)) (fun i => l.length - (intOf i).toNat)
  case atStart => exact ⟨0, Nat.zero_le _, rfl, hidep (by simp)⟩
  case round =>
    obtain ⟨k, hk, rfl, hg⟩ := hrel
    by_cases hlt : k < l.length
    · obtain ⟨b, off, rfl, hb, hx⟩ := ints_get hv hlt
      have HS := hidep (IdxR.step hlt hg.out)
      have hk0 : (0 : Int) ≤ (k : Int) := by omega
      have hk1 : (k : Int) < (l.length : Int) := by omega
      clear hv hg
      generalize l[k] = x at *
      cases hp : decide (x < s)
      · have HR := hidep (HS.out.2 hp)
        have HFX := HF.out x
        rw [hp] at HFX
        clear HS hp HF
        go_wp2_with fail
        refine HFX.mono ?_
        rintro e w1 ⟨rfl, rfl⟩
        go_wp2
        go_round
        case rel => exact ⟨k + 1, by omega, by go_num, HR⟩
        case measure => simp [intOf]; omega
      · have HR := hidep (HS.out.1 hp)
        have HFX := HF.out x
        rw [hp] at HFX
        clear HS hp HF
        go_wp2_with fail
        refine HFX.mono ?_
        rintro e w1 ⟨rfl, rfl⟩
        go_wp2
        go_ret
        exact ⟨⟨_, rfl, HR.out⟩, rfl⟩
    · go_wp2
      go_ret
      have hkl : k = l.length := by omega
      subst hkl
      have := hg.out
      rw [List.take_length] at this
      exact ⟨⟨_, rfl, .inl ⟨rfl, this⟩⟩, rfl⟩
set_option maxHeartbeats 1000000 in
theorem conI_any (g : Nat) (s : Int) (v : Value) (l : List Int) (w : World) (hv : IntsAt w v l) (hg : w.cell? ⟨g, 1, none⟩ = some (.int .i64 s)) :
    Calls Try.prog 48 #[v, .func (.func 49) #[] #[.pointer (some ⟨g, 0, none⟩)]] w fun e w' => e = .returned (.bool (l.any fun x => decide (x < s))) ∧ w = w' := by
  have HI := hidep (idxI_any g s v l w hv hg)
  clear hv hg
  go_enter Try.func48, Try.ntmps48
  go_wp2_with fail
  refine HI.out.mono ?_
  rintro e w1 ⟨⟨k, rfl, hk⟩, rfl⟩
  have HK := hidep hk.any
  clear hk
  go_wp2
  go_ret
  exact ⟨ret_val (congrArg Value.bool HK.out), rfl⟩
set_option maxHeartbeats 1000000 in
theorem idxR_any (g n : Nat) (v : Value) (rows : List (List Int)) (w : World) (hv : TabAt w v rows) (hg : w.cell? ⟨g, 0, none⟩ = some (.int .i64 (n : Nat))) :
    Calls Try.prog 84 #[v, .func (.func 66) #[] #[.pointer (some ⟨g, 0, none⟩)]] w fun e w' => (∃ k : Int, e = .returned (.int .i64 k) ∧ IdxR (fun r : List Int => !decide (r.length = n)) rows k) ∧ w = w' := by
  obtain ⟨a, c, rfl, hc, hm⟩ := TabOf.form hv
  unfold maxLen at hm
  have HF := hidep (fun a m c (h : m ≤ 9223372036854775807) => bo1_any g n m c a w h hg)
  clear hg
  go_enter Try.func84, Try.ntmps84
  go_wp2
  go_loop [8] (fun i => ∃ k : Nat, k ≤ rows.length ∧ i = .int .i64 k ∧ Hid (∀ x ∈ rows.take k, (fun r : List Int => !decide (r.length = n)) x = false)) (fun i => rows.length - (intOf i).toNat)
  case atStart => exact ⟨0, Nat.zero_le _, rfl, hidep (by simp)⟩
  case round =>
    obtain ⟨k, hk, rfl, hg⟩ := hrel
    by_cases hlt : k < rows.length
    · obtain ⟨b, off, u, rfl, hb, hx, hu⟩ := tab_get hv hlt
      have HS := hidep (IdxR.step hlt hg.out)
      have hk0 : (0 : Int) ≤ (k : Int) := by omega
      have hk1 : (k : Int) < (rows.length : Int) := by omega
      obtain ⟨ua, uc, rfl, huc, hum⟩ := hu.1.form
      unfold maxLen at hum
      have HFX := HF.out ua rows[k].length uc (by omega)
      have HSE : Hid ((fun r : List Int => !decide (r.length = n)) rows[k] = !decide (rows[k].length = n)) := hidep rfl
      clear hv hg hu HF
      generalize rows[k] = x at *
      cases hp : !decide (x.length = n)
      · have HR := hidep (HS.out.2 (HSE.out.trans hp))
        rw [hp] at HFX
        clear HS hp HSE
        generalize x.length = m at *
        go_wp2_with fail
        refine HFX.mono ?_
        rintro e w1 ⟨rfl, rfl⟩
        go_wp2
        go_round
        case rel => exact ⟨k + 1, by omega, by go_num, HR⟩
        case measure => simp [intOf]; omega
      · have HR := hidep (HS.out.1 (HSE.out.trans hp))
        rw [hp] at HFX
        clear HS hp HSE
        generalize x.length = m at *
        go_wp2_with fail
        refine HFX.mono ?_
        rintro e w1 ⟨rfl, rfl⟩
        go_wp2
        go_ret
        exact ⟨⟨_, rfl, HR.out⟩, rfl⟩
    · go_wp2
      go_ret
      have hkl : k = rows.length := by omega
      subst hkl
      have := hg.out
      rw [List.take_length] at this
      exact ⟨⟨_, rfl, .inl ⟨rfl, this⟩⟩, rfl⟩
set_option maxHeartbeats 1000000 in
theorem conR_any (g n : Nat) (v : Value) (rows : List (List Int)) (w : World) (hv : TabAt w v rows) (hg : w.cell? ⟨g, 0, none⟩ = some (.int .i64 (n : Nat))) :
    Calls Try.prog 65 #[v, .func (.func 66) #[] #[.pointer (some ⟨g, 0, none⟩)]] w fun e w' => e = .returned (.bool (rows.any fun r : List Int => !decide (r.length = n))) ∧ w = w' := by
  have HI := hidep (idxR_any g n v rows w hv hg)
  clear hv hg
  go_enter Try.func65, Try.ntmps65
  go_wp2_with fail
  refine HI.out.mono ?_
  rintro e w1 ⟨⟨k, rfl, hk⟩, rfl⟩
  have HK := hidep hk.any
  clear hk
  go_wp2
  go_ret
  exact ⟨ret_val (congrArg Value.bool HK.out), rfl⟩
theorem eqZ_step {l m : List Int} (hlm : l.length = m.length) {k : Nat} (h : k < l.length) : decide (l.drop k = m.drop k) = (decide (l[k] = m[k]) && decide (l.drop (k + 1) = m.drop (k + 1))) := by
  rw [List.drop_eq_getElem_cons h, List.drop_eq_getElem_cons (by omega : k < m.length), ← Bool.decide_and]
  exact decide_eq_decide.2 ⟨fun e => by injection e with e1 e2; exact ⟨e1, e2⟩, fun e => by rw [e.1, e.2]⟩
set_option maxHeartbeats 1000000 in
theorem equal_any (v u : Value) (l m : List Int) (w : World) (hv : IntsAt w v l) (hu : IntsAt w u m) : Calls Try.prog 46 #[v, u] w fun e w' => e = .returned (.bool (decide (l = m))) ∧ ∃ d, w' = w.drewN d := by
  obtain ⟨a, c, rfl, hc, hm⟩ := hv.1.form
  obtain ⟨a2, c2, rfl, hc2, hm2⟩ := hu.1.form
  unfold maxLen at hm hm2
  by_cases hl : l.length = m.length
  · have hn : ((l.length : Int) == (m.length : Int)) = true := by rw [hl]; simp
    go_enter Try.func46, Try.ntmps46
    go_wp2
    go_loopw [13] (fun i wr => ∃ k : Nat, k ≤ l.length ∧ i = .int .i64 k ∧ Hid (decide (l = m) = decide (l.drop k = m.drop k)) ∧ ∃ d, wr = w.drewN d) (fun i _ => l.length - (intOf i).toNat)
    case atStart => exact ⟨0, Nat.zero_le _, rfl, hidep rfl, 0, rfl⟩
    case round =>
      obtain ⟨k, hk, rfl, hg, d, rfl⟩ := hrel
      by_cases hlt : k < l.length
      · obtain ⟨b, off, rfl, hb, hx⟩ := ints_get hv hlt
        obtain ⟨b2, off2, rfl, hb2, hx2⟩ := ints_get hu (by omega : k < m.length)
        have HS := hidep (hg.out.trans (eqZ_step hl hlt))
        have hk0 : (0 : Int) ≤ (k : Int) := by omega
        have hk1 : (k : Int) < (l.length : Int) := by omega
        have hk2 : (k : Int) < (m.length : Int) := by omega
        have HX := hidep hx
        have HX2 := hidep hx2
        clear hx hx2 hv hu hg
        generalize l[k] = x at *
        generalize m[k] = y at *
        have hx := HX.out
        have hx2 := HX2.out
        clear HX HX2
        by_cases hxy : x = y
        · have HR := hidep (HS.out.trans (by rw [decide_eq_true hxy]; rfl : _ = decide (l.drop (k + 1) = m.drop (k + 1))))
          subst hxy
          clear HS
          go_upto_region 6 with (fail)
          go_quiet (fail)
          go_wp2
          go_roundw
          case rel => exact ⟨k + 1, by omega, by go_num, HR, _, rfl⟩
          case measure => simp [intOf]; omega
        · have HR := hidep (HS.out.trans (by rw [decide_eq_false hxy]; rfl : _ = false))
          clear HS
          go_upto_region 6 with (fail)
          go_quiet (fail)
          go_wp2
          go_ret
          exact ⟨ret_val (congrArg _ HR.out.symm), _, by first | rfl | exact World.drewN_drewN ..⟩
      · have hkl : k = l.length := by omega
        subst hkl
        have HR : Hid (decide (l = m) = true) := hidep (by rw [hg.out, List.drop_length, hl, List.drop_length]; rfl)
        clear hv hu hg
        go_wp2
        go_ret
        exact ⟨ret_val (congrArg _ HR.out.symm), _, rfl⟩
  · have HR : Hid (decide (l = m) = false) := hidep (decide_eq_false (fun e => hl (by rw [e])))
    have hn : ((l.length : Int) == (m.length : Int)) = false := beq_false_of_ne (by omega)
    go_enter Try.func46, Try.ntmps46
    clear hv hu hl
    generalize l.length = x at *
    generalize m.length = y at *
    go_wp2
    go_ret
    exact ⟨ret_val (congrArg Value.bool HR.out.symm), 0, rfl⟩
end Go.Proofs.Ytfljgcpfmhhgcaa
