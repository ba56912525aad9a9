/- Plain: the least edits (printed by gensplit.py). -/
import Derived.Test.YthdafajhohdkoaaOwnEE
namespace Go.Proofs.Ythdafajhohdkoaa
open Go.RowKit Go.Lab
def sizeZ (l : List Edit) : Int := (l.map fun e => e.del + (e.ins.length : Int)).sum
def szOk (l : List Edit) : Prop := l.length ≤ 1048576 ∧ ∀ e ∈ l, 0 ≤ e.del ∧ e.del ≤ 1099511627776 ∧ e.ins.length ≤ 1099511627776
theorem sizeZ_take_succ {l : List Edit} {k : Nat} (h : k < l.length) : sizeZ (l.take (k + 1)) = sizeZ (l.take k) + l[k].del + (l[k].ins.length : Int) := by
  unfold sizeZ
  rw [List.take_succ_eq_append_getElem h, List.map_append, List.sum_append]
  simp only [List.map_cons, List.map_nil, List.sum_cons, List.sum_nil]
  omega
theorem sizeZ_bd {l : List Edit} (h : szOk l) : ∀ k : Nat, k ≤ l.length → 0 ≤ sizeZ (l.take k) ∧ sizeZ (l.take k) ≤ (k : Int) * 2199023255552
  | 0, _ => by simp [sizeZ]
  | k + 1, hk => by
    have ih := sizeZ_bd h k (by omega)
    rw [sizeZ_take_succ (by omega)]
    have := h.2 l[k] (List.getElem_mem (by omega))
    omega
theorem editsGo_sz (n m : Nat) (b : List Sym) (hn : n ≤ 2048) (hm : b.length ≤ m) : ∀ (l : List (Nat × Nat)) (i k : Nat), incP n m i k l →
    ∀ e ∈ editsGo b i k (l ++ [(n, m)]), 0 ≤ e.del ∧ e.del ≤ 2048 ∧ e.ins.length ≤ b.length
  | [], i, k, h, e, he => by
    simp only [List.nil_append, editsGo, List.append_nil] at he
    split at he
    · simp at he
      subst he
      have := h.1
      simp only [List.length_take, List.length_drop]
      omega
    · cases he
  | (p, q) :: r, i, k, h, e, he => by
    rw [List.cons_append, editsGo] at he
    rcases List.mem_append.1 he with he | he
    · split at he
      · simp at he
        subst he
        have := h.1
        have := h.2.2.1
        simp only [List.length_take, List.length_drop]
        omega
      · cases he
    · exact editsGo_sz n m b hn hm r (p + 1) (q + 1) h.2.2.2.2 e he
theorem choicesZ_mem {a b : List Sym} {most : Int} {es : List Edit} (h : es ∈ choicesZ a b most) : ∃ p, isTextB a = true ∧ isTextB b = true ∧ p ∈ enumP a b a.length 0 0 ∧ incP a.length b.length 0 0 p ∧ es = editsZ a b p := by
  unfold choicesZ at h
  split at h
  · rename_i hc
    simp only [Bool.and_eq_true] at hc
    obtain ⟨p, hp, rfl⟩ := List.mem_map.1 h
    have hm := List.mem_of_mem_take hp
    exact ⟨p, hc.1.1.1, hc.1.1.2, hm, enumP_inc _ _ _ p (by omega) (by omega) hm, rfl⟩
  · cases h
theorem choicesZ_sz {a b : List Sym} {most : Int} {es : List Edit} (h : es ∈ choicesZ a b most) : szOk es := by
  obtain ⟨p, hta, htb, hp, hinc, rfl⟩ := choicesZ_mem h
  have hla := isTextB_len hta
  have hlb := isTextB_len htb
  refine ⟨?_, fun e he => ?_⟩
  · have := editsGo_len b (p ++ [(a.length, b.length)]) 0 0
    have h2 := enumP_len _ _ _ p hp
    unfold editsZ
    simp at this
    omega
  · have := editsGo_sz a.length b.length b hla (Nat.le_refl _) p 0 0 hinc e he
    omega
def leastZ (a b : List Sym) : List Edit × Int × Bool :=
  ((choicesZ a b 2).headD [], sizeZ ((choicesZ a b 2).headD []), decide (1 < (choicesZ a b 2).length))
end Go.Proofs.Ythdafajhohdkoaa
