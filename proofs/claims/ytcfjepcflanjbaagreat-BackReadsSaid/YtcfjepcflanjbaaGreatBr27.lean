/- Contracts: valid edits (package lift). -/
import Derived.Test.YtcfjepcflanjbaaGreatBr12
namespace Go.Proofs.YtcfjepcflanjbaaGreat
open Go.RowKit Go.Lab
end Go.Proofs.YtcfjepcflanjbaaGreat
/- Contract: lift.Apply, a text with edits. -/
namespace Go.Proofs.YtcfjepcflanjbaaGreat
open Go.RowKit Go.Lab
theorem zqca {w : World} {B B' e size n : Nat} {v : Value} {xs : List Value} (h : w.ownsRow B' e size v n xs) (hB : B <= B') : w.ownsRow B e size v n xs :=
  ⟨h.1, h.2.imp id (fun ⟨g, cap, cur, a, b, c⟩ => ⟨g, cap, cur, a, Nat.le_trans hB b, c⟩)⟩
end Go.Proofs.YtcfjepcflanjbaaGreat
