/- Contracts: valid edits (package lift). -/
import Derived.Test.YtcfjepcflanjbaaBf13
import Derived.Test.YtcfjepcflanjbaaBf14
namespace Go.Proofs.Ytcfjepcflanjbaa
open Go.RowKit Go.Lab
def badE (n last : Int) (e : Edit) : Bool :=
  decide (e.pos ≤ last) || decide (n < e.pos) || decide (e.del < 0) || decide (n - e.pos < e.del) || decide (64 < e.ins.length) || !e.ins.all goodB || (decide (e.del = 0) && decide (e.ins.length = 0))
def validGo (n : Int) : Int → List Edit → Bool
  | _, [] => true
  | last, e :: l => if badE n last e then false else validGo n (e.pos + e.del) l
def validZ (n : Int) (l : List Edit) : Bool := decide (l.length ≤ 32) && validGo n (-1) l
theorem validGo_step {n last : Int} {l : List Edit} {k : Nat} (h : k < l.length) :
    (badE n last l[k] = true → validGo n last (l.drop k) = false) ∧ (badE n last l[k] = false → validGo n last (l.drop k) = validGo n (l[k].pos + l[k].del) (l.drop (k + 1))) := by
  rw [List.drop_eq_getElem_cons h, validGo]
  exact ⟨fun hb => by rw [if_pos hb], fun hb => by rw [if_neg (by simp [hb])]⟩
theorem badE_true {n last pos del : Int} {ins : List Sym} (h : pos ≤ last ∨ n < pos ∨ del < 0 ∨ n - pos < del ∨ 64 < ins.length ∨ ins.all goodB = false ∨ (del = 0 ∧ ins.length = 0)) : badE n last ⟨pos, del, ins⟩ = true := by
  unfold badE
  simp only [Bool.or_eq_true, decide_eq_true_eq, Bool.and_eq_true, Bool.not_eq_true']
  rcases h with h | h | h | h | h | h | h
  · simp [h]
  · simp [h]
  · simp [h]
  · simp [h]
  · simp [h]
  · simp [h]
  · simp [h]
theorem badE_false {n last pos del : Int} {ins : List Sym} (h1 : last < pos) (h2 : pos ≤ n) (h3 : 0 ≤ del) (h4 : del ≤ n - pos) (h5 : ins.length ≤ 64) (h6 : ins.all goodB = true) (h7 : del ≠ 0 ∨ ins.length ≠ 0) : badE n last ⟨pos, del, ins⟩ = false := by
  unfold badE
  rw [h6]
  simp only [Bool.or_eq_false_iff, decide_eq_false_iff_not, Bool.and_eq_false_iff, Bool.not_true, and_true]
  omega
end Go.Proofs.Ytcfjepcflanjbaa
/- Contract: lift.Apply, a text with edits. -/
namespace Go.Proofs.Ytcfjepcflanjbaa
open Go.RowKit Go.Lab
theorem own_base {w : World} {B B' e size n : Nat} {v : Value} {xs : List Value} (h : w.ownsRow B' e size v n xs) (hB : B ≤ B') : w.ownsRow B e size v n xs :=
  ⟨h.1, h.2.imp id (fun ⟨g, cap, cur, a, b, c⟩ => ⟨g, cap, cur, a, Nat.le_trans hB b, c⟩)⟩
theorem SymssAt.lit3 {w : World} {u1 u2 u3 : Value} {a b c : List Sym} (h1 : SymsAt w u1 a) (h2 : SymsAt w u2 b) (h3 : SymsAt w u3 c) :
    SymssAt (w.alloc (.cells #[u1, u2, u3] 33)) (.slice (some ⟨w.heap.size, 0, none⟩) 3 3) [a, b, c] := by
  have hb : Below w.heap.size w (w.alloc (.cells #[u1, u2, u3] 33)) := (Below.refl _ _).alloc (Nat.le_refl _) _
  refine ⟨[u1, u2, u3], rfl, Rd.fresh w #[u1, u2, u3] 33 1 3 rfl (by decide), fun i hi hi' => ?_⟩
  match i, hi, hi' with
  | 0, _, _ => exact h1.below hb
  | 1, _, _ => exact h2.below hb
  | 2, _, _ => exact h3.below hb
def applyGo (l : List Sym) : Nat → List Sym → List Edit → List Sym
  | p, out, [] => out ++ l.drop p
  | p, out, e :: es => applyGo l (e.pos + e.del).toNat (out ++ (l.drop p).take (e.pos.toNat - p) ++ e.ins) es
def applyZ (l : List Sym) (es : List Edit) : List Sym × Int :=
  if isTextB l && validZ l.length es then (if 2048 < (applyGo l 0 [] es).length then ([], 4) else (applyGo l 0 [] es, 0)) else ([], 1)
theorem applyGo_step {l : List Sym} {p : Nat} {out : List Sym} {es : List Edit} {k : Nat} (h : k < es.length) :
    applyGo l p out (es.drop k) = applyGo l (es[k].pos + es[k].del).toNat (out ++ (l.drop p).take (es[k].pos.toNat - p) ++ es[k].ins) (es.drop (k + 1)) := by
  rw [List.drop_eq_getElem_cons h, applyGo]
end Go.Proofs.Ytcfjepcflanjbaa
