/- Pairs of places as plain data, and how their cells read. -/
import Derived.Test.YthdafajhohdkoaaTypes
namespace Go.Proofs.Ythdafajhohdkoaa
open Go.RowKit Go.Lab
def pairC (p : Nat × Nat) : List Value := [.int .i64 p.1, .int .i64 p.2]
def pairsC (l : List (Nat × Nat)) : List Value := l.flatMap pairC
theorem pairsC_append (a b : List (Nat × Nat)) : pairsC (a ++ b) = pairsC a ++ pairsC b := by simp [pairsC]
theorem pairsC_cons (p : Nat × Nat) (l : List (Nat × Nat)) : pairsC (p :: l) = [.int .i64 p.1, .int .i64 p.2] ++ pairsC l := rfl
theorem pairsC_len (l : List (Nat × Nat)) : (pairsC l).length = l.length * 2 := by
  induction l with
  | nil => rfl
  | cons a l ih => simp [pairsC, pairC] at *; omega
theorem pairsC_one (l : List (Nat × Nat)) : ∀ u ∈ pairsC l, u.oneCell' = true := by
  intro u hu
  obtain ⟨x, _, hx⟩ := List.mem_flatMap.1 hu
  simp [pairC] at hx
  rcases hx with rfl | rfl <;> rfl
theorem pairsC_get (l : List (Nat × Nat)) (i : Nat) (h : i < l.length) : (pairsC l)[i * 2]? = some (.int .i64 l[i].1) ∧ (pairsC l)[i * 2 + 1]? = some (.int .i64 l[i].2) := by
  induction l generalizing i with
  | nil => simp at h
  | cons a l ih =>
    cases i with
    | zero => simp [pairsC, pairC]
    | succ i =>
      have := ih i (by simpa using h)
      have e : (i + 1) * 2 = i * 2 + 1 + 1 := by omega
      simpa [pairsC, pairC, e] using this
def PairsAt (w : World) (v : Value) (l : List (Nat × Nat)) : Prop := Rd w (· = 45) 2 v l.length (pairsC l)
theorem PairsAt.keeps {w w' : World} {v : Value} {l : List (Nat × Nat)} {T : TypeId → Prop} (h : PairsAt w v l) (hk : Keeps T w w') (hT : T 45) : PairsAt w' v l :=
  Rd.keeps h (hk.mono (by rintro t rfl; exact hT))
theorem PairsAt.below {w w' : World} {v : Value} {l : List (Nat × Nat)} (h : PairsAt w v l) (hb : Below w.heap.size w w') : PairsAt w' v l := Rd.below h hb
theorem PairsAt.form {w : World} {v : Value} {l : List (Nat × Nat)} (h : PairsAt w v l) : ∃ a cap, v = .slice a l.length cap ∧ l.length ≤ cap ∧ cap ≤ maxLen := Rd.form h
theorem PairsAt.at {w : World} {a : Option Addr} {c : Nat} {l : List (Nat × Nat)} (h : PairsAt w (.slice a l.length c) l) {k : Nat} (hk : k < l.length) :
    ∃ b off, a = some ⟨b, off, none⟩ ∧ b < w.heap.size ∧ w.cell? ⟨b, off + k * 2, none⟩ = some (.int .i64 l[k].1) ∧ w.cell? ⟨b, off + k * 2 + 1, none⟩ = some (.int .i64 l[k].2) := by
  obtain ⟨b, off, e, hb, hc⟩ := Rd.at h (by omega)
  have := pairsC_get l k hk
  exact ⟨b, off, e, hb, hc _ _ this.1, hc (k * 2 + 1) _ this.2⟩
theorem slPair : SlT Try.prog 42 45 (.agg #[.int .i64 0, .int .i64 0]) 2 16 := ⟨by kernel_rfl, by kernel_rfl, rfl, by decide⟩
end Go.Proofs.Ythdafajhohdkoaa
