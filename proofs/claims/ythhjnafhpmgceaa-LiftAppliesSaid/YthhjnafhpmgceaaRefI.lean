/- Contract: the reference's Least. -/
import Derived.Test.YthhjnafhpmgceaaRefH
import Derived.Test.YthhjnafhpmgceaaRefE
namespace Go.Proofs.Ythhjnafhpmgceaa
open Go.RowKit Go.Lab
theorem editsGo_sz (n m : Nat) (b : List Sym) (hn : n ≤ 2048) (hm : b.length ≤ m) : ∀ (l : List (Nat × Nat)) (i k : Nat), incP n m i k l →
    ∀ e ∈ editsGo b i k (l ++ [(n, m)]), 0 ≤ e.del ∧ e.del ≤ 2048 ∧ e.ins.length ≤ b.length
  | [], i, k, h, e, he => by
    simp only [List.nil_append, editsGo, List.append_nil] at he
    split at he
    · simp at he
      subst he
      have := h.1
      simp only [List.length_take, List.length_drop]
      omega
    · cases he
  | (p, q) :: r, i, k, h, e, he => by
    rw [List.cons_append, editsGo] at he
    rcases List.mem_append.1 he with he | he
    · split at he
      · simp at he
        subst he
        have := h.1
        have := h.2.2.1
        simp only [List.length_take, List.length_drop]
        omega
      · cases he
    · exact editsGo_sz n m b hn hm r (p + 1) (q + 1) h.2.2.2.2 e he
theorem choicesZ_mem {a b : List Sym} {most : Int} {es : List Edit} (h : es ∈ choicesZ a b most) : ∃ p, isTextB a = true ∧ isTextB b = true ∧ p ∈ enumP a b a.length 0 0 ∧ incP a.length b.length 0 0 p ∧ es = editsZ a b p := by
  unfold choicesZ at h
  split at h
  · rename_i hc
    simp only [Bool.and_eq_true] at hc
    obtain ⟨p, hp, rfl⟩ := List.mem_map.1 h
    have hm := List.mem_of_mem_take hp
    exact ⟨p, hc.1.1.1, hc.1.1.2, hm, enumP_inc _ _ _ p (by omega) (by omega) hm, rfl⟩
  · cases h
theorem choicesZ_sz {a b : List Sym} {most : Int} {es : List Edit} (h : es ∈ choicesZ a b most) : szOk es := by
  obtain ⟨p, hta, htb, hp, hinc, rfl⟩ := choicesZ_mem h
  have hla := isTextB_len hta
  have hlb := isTextB_len htb
  refine ⟨?_, fun e he => ?_⟩
  · have := editsGo_len b (p ++ [(a.length, b.length)]) 0 0
    have h2 := enumP_len _ _ _ p hp
    unfold editsZ
    simp at this
    omega
  · have := editsGo_sz a.length b.length b hla (Nat.le_refl _) p 0 0 hinc e he
    omega
def leastZ (a b : List Sym) : List Edit × Int × Bool :=
  ((choicesZ a b 2).headD [], sizeZ ((choicesZ a b 2).headD []), decide (1 < (choicesZ a b 2).length))
set_option maxHeartbeats 1000000 in
theorem least33_any (a b : List Sym) (va vb : Value) (w : World) (ha : SymsAt w va a) (hb : SymsAt w vb b) :
    Calls Try.prog 21 #[va, vb] w fun e w' => ∃ v, e = .returned (.tuple #[v, .int .i64 (leastZ a b).2.1, .bool (leastZ a b).2.2]) ∧ EditsAt w' v (leastZ a b).1 ∧ Below w.heap.size w w' := by
  have HC := hidep (choices33_any a b va vb 2 w ha hb)
  have HS : Hid (∀ es ∈ choicesZ a b 2, szOk es) := hidep (fun es h => choicesZ_sz h)
  have HZ : Hid (leastZ a b = ((choicesZ a b 2).headD [], sizeZ ((choicesZ a b 2).headD []), decide (1 < (choicesZ a b 2).length))) := hidep rfl
  generalize choicesZ a b 2 = L at *
  generalize leastZ a b = Z at *
  cases L with
  | nil =>
    go_enter Try.func21, Try.ntmps21
    go_wp2_with fail
    refine HC.out.mono ?_
    rintro e w1 ⟨v, rfl, hO, hb1⟩
    obtain ⟨ao, co, rfl, hc1, hc2⟩ := hO.form
    go_wp2
    go_ret3
    rw [HZ.out]
    exact ⟨_, rfl, EditsAt.nil _, hb1⟩
  | cons es r =>
    have hs := HS.out es (List.mem_cons_self ..)
    go_enter Try.func21, Try.ntmps21
    go_wp2_with fail
    refine HC.out.mono ?_
    rintro e w1 ⟨v, rfl, hO, hb1⟩
    obtain ⟨ao, co, rfl, hc1, hc2⟩ := hO.form
    obtain ⟨bo, oo, u, rfl, hbo, hcu, hu⟩ := hO.rd.at (k := 0) (by simp)
    simp only [List.getElem_cons_zero] at hu
    simp only [Nat.add_zero] at hcu
    have HSZ := hidep (fun (W : World) (n : Nat) (e : W = w1.drewN n) => size_any u es W (by rw [e]; exact hu) hs)
    have HU := hidep hu
    obtain ⟨au, cu, rfl, hu2, hu3⟩ := hu.form
    have hN0 : 0 < (es :: r).length := by simp
    have hne : (((es :: r).length : Int) == 0) = false := by simp only [beq_eq_false_iff_ne]; omega
    have hlt : (0 : Int) < ((es :: r).length : Int) := by omega
    have HN : Hid (Z = (es, sizeZ es, decide (1 < (es :: r).length))) := hidep (by rw [HZ.out]; rfl)
    clear hs hu hO
    generalize (es :: r).length = N at *
    go_wp2
    go_quiet ((go_at_call 18; refine (HSZ.out _ _ (by go_simp; rfl)).mono ?_; rintro e w' ⟨rfl, n1, rfl⟩; exact ⟨rfl, _, World.drewN_drewN ..⟩))
    go_wp2
    go_ret3
    rw [HN.out]
    refine ⟨_, ?_, HU.out, below_drewN hb1 _⟩
    have hd : decide ((1 : Int) < (N : Int)) = decide (1 < N) := by
      rw [decide_eq_decide]
      omega
    first | (simp [hd]; done) | (simp; omega)
end Go.Proofs.Ythhjnafhpmgceaa
