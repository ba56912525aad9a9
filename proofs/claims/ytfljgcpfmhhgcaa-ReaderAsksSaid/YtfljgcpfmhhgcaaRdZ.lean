/- Reader: the map of what is known: keys of two numbers. -/
import Derived.Maps.OwnSet
import Derived.Maps.Views
import Derived.WideKeyArr
import Derived.Test.YtfljgcpfmhhgcaaRdP
namespace Go.Proofs.Ytfljgcpfmhhgcaa
open Go.RowKit Go.Lab Go.WideMaps
def keyV (s : Nat) (at_ : Int) : Value := .agg #[.int .i64 (s : Nat), .int .i64 at_]
theorem arr2 : ArrKey Try.prog 119 3 2 := ⟨by kernel_rfl, by kernel_rfl, by kernel_rfl, by kernel_rfl⟩
theorem keyed2 : Maps.Keyed Try.prog 119 := Maps.Keyed.of_law arr2.law
theorem key_some (s : Nat) (at_ : Int) (hs : s < 512) (h1 : -1 ≤ at_) (h2 : at_ ≤ 8) : ∃ kl, keyOf Try.prog 119 (keyV s at_) = some kl := by
  have hk : Try.prog.keyType 119 = true := by kernel_rfl
  have hi : Try.prog.underlying 3 = some (.int .i64) := Try.underlying3
  have hw1 : (Lit.int .i64 (s : Nat)).wf = true := by simp [Lit.wf, IntKind.min, IntKind.max, IntKind.signed, IntKind.bits]; omega
  have hw2 : (Lit.int .i64 at_).wf = true := by simp [Lit.wf, IntKind.min, IntKind.max, IntKind.signed, IntKind.bits]; omega
  have hf : (keyV s at_).formed Try.prog 119 = true := by
    unfold keyV Value.formed
    rw [arr2.hu]
    simp [arr2.size]
  have hl : Try.prog.keyLits (Try.prog.types.size + 1) 119 [.int .i64 (s : Nat), .int .i64 at_] = some [.int .i64 (s : Nat), .int .i64 at_] := by
    have h0 : 0 < Try.prog.types.size := of_decide_eq_true (by kernel_rfl)
    obtain ⟨m, hm⟩ : ∃ m, Try.prog.types.size = m + 1 := ⟨Try.prog.types.size - 1, by omega⟩
    rw [hm]
    unfold Program.keyLits
    rw [arr2.hu]
    simp only [arr2.size, arr2.one]
    have hone : ∀ x : Int, (Lit.int .i64 x).wf = true → Try.prog.keyLits (m + 1) 3 [.int .i64 x] = some [.int .i64 x] := fun x hx => by
      unfold Program.keyLits
      rw [hi]
      simp [hx]
    rw [if_pos (by rfl)]
    simp [List.range, List.range.loop, hone _ hw1, hone _ hw2]
  refine ⟨.string (keyBytes [.int .i64 (s : Nat), .int .i64 at_]), ?_⟩
  unfold keyOf
  rw [arr2.hu]
  simp only [hk, hf, Bool.and_self, if_true]
  rw [show (keyV s at_).cells.toList = [.int .i64 (s : Nat), .int .i64 at_] from rfl, hl]
  rfl
/-- Where a reader stands that has come to the needed fact at; -1: at the beginning. -/
def fromOf (L : List Pl) (at_ : Int) : Pl := if at_ < 0 then pl0 else lp L at_.toNat
theorem fromOf_ok {L : List Pl} (h : ∀ p ∈ L, PlOk p) (at_ : Int) : PlOk (fromOf L at_) := by
  unfold fromOf
  split
  · exact pl0_ok
  · exact lp_ok h _
/-- The map in block b says of whatever it knows the least rest. -/
def MapOk (w : World) (way : Int) (L : List Pl) (b n : Nat) : Prop :=
  ∃ D : DataW Unit, w.ownsMap Try.prog 119 (plainElem Try.prog 3) b n D ∧ ∀ (s : Nat) (at_ : Int) (kl : Lit), s < 512 → -1 ≤ at_ → at_ ≤ 8 → keyOf Try.prog 119 (keyV s at_) = some kl →
    Maps.has D kl = true → D.atKey kl (.lit (.int .i64 0)) = .lit (.int .i64 (restV way L s (fromOf L at_)))
theorem MapOk.made (w : World) (way : Int) (L : List Pl) : MapOk (w.alloc (.map #[] 0)) way L w.heap.size 0 :=
  ⟨_, World.ownsMap_made w _ _ _, fun _ _ _ _ _ _ _ h => by cases h⟩
theorem MapOk.mono {w : World} {way : Int} {L : List Pl} {b n n' : Nat} (h : MapOk w way L b n) (hn : n ≤ n') : MapOk w way L b n' := by
  obtain ⟨D, h1, h2⟩ := h
  exact ⟨D, h1.mono hn, h2⟩
theorem MapOk.lt {w : World} {way : Int} {L : List Pl} {b n : Nat} (h : MapOk w way L b n) : b < w.heap.size := by
  obtain ⟨D, h1, _⟩ := h
  exact h1.lt
theorem MapOk.kept {w w' : World} {row : Option Nat} {way : Int} {L : List Pl} {b n : Nat} (h : MapOk w way L b n) (hg : w.grownBy w' row) (hne : some b ≠ row) : MapOk w' way L b n := by
  obtain ⟨D, h1, h2⟩ := h
  exact ⟨D, h1.kept hg hne, h2⟩
theorem MapOk.below {w w' : World} {way : Int} {L : List Pl} {b n : Nat} (h : MapOk w way L b n) (hb : Below w.heap.size w w') : MapOk w' way L b n :=
  h.kept (row := none) ⟨hb.os, hb.tape, hb.output, hb.size, fun k hk _ => hb.block k hk⟩ (by simp)
theorem MapOk.isMap {w : World} {way : Int} {L : List Pl} {b n : Nat} (h : MapOk w way L b n) : ∃ es clock, w.heap[b]? = some (.map es clock) := by
  obtain ⟨D, ⟨es, clock, hb, _⟩, _⟩ := h
  exact ⟨es, clock, hb⟩
theorem MapOk.put {w w' : World} {way : Int} {L : List Pl} {b n : Nat} {D : DataW Unit} (hD : w.ownsMap Try.prog 119 (plainElem Try.prog 3) b n D)
    (h2 : ∀ (s : Nat) (at_ : Int) (kl : Lit), s < 512 → -1 ≤ at_ → at_ ≤ 8 → keyOf Try.prog 119 (keyV s at_) = some kl → Maps.has D kl = true → D.atKey kl (.lit (.int .i64 0)) = .lit (.int .i64 (restV way L s (fromOf L at_))))
    {s : Nat} {at_ : Int} {kl : Lit} (hk : keyOf Try.prog 119 (keyV s at_) = some kl) (ho : w'.ownsMap Try.prog 119 (plainElem Try.prog 3) b (n + 1) (D.put kl (.lit (.int .i64 (restV way L s (fromOf L at_)))))) : MapOk w' way L b (n + 1) := by
  refine ⟨_, ho, fun s' at' kl' hs' h1' h2' hk' hhas => ?_⟩
  have hm := hD.isMap
  by_cases he : kl' = kl
  · subst he
    have := keyed2.inj hk hk'
    have hse : s = s' ∧ at_ = at' := by
      unfold keyV at this
      simp at this
      exact ⟨by omega, this.2⟩
    obtain ⟨rfl, rfl⟩ := hse
    rw [Maps.atKey_put_same hm (keyed2.key hk)]
  · rw [Maps.atKey_put_other he]
    rw [Maps.has_put_other he] at hhas
    exact h2 s' at' kl' hs' h1' h2' hk' hhas
end Go.Proofs.Ytfljgcpfmhhgcaa
