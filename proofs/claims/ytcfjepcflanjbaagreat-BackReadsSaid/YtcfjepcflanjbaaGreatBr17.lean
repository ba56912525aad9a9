/- A map whose keys are a rule's text and context. -/
import Derived.Test.YtcfjepcflanjbaaGreatBr05
import Derived.Maps.OwnSet
import Derived.Maps.Views
import Derived.WideKeyArr
import Derived.DeepKeys3
namespace Go.Proofs.YtcfjepcflanjbaaGreat
open Go.RowKit Go.Lab Go.WideMaps Go.Maps
set_option maxRecDepth 100000
def nameV (s : ByteArray) (wh : Int) : Value := .agg #[.string s, .int .i64 wh]
theorem nameWide : (match Tryz.prog.underlying 115 with | some (.array _ _) | some (.struct _) => true | _ => false) = true := by kernel_rfl
theorem zqd8 : Maps.Keyed Tryz.prog 115 := Maps.Keyed.of_law (deep_law (m := 2) (by omega) (by kernel_rfl) (by kernel_rfl) nameWide)
def kN (s : ByteArray) (wh : Int) : Lit := .string (keyBytes [.string s.data.toList, .int .i64 wh])
theorem name_key (s : ByteArray) (wh : Int) (hs : s.size <= 100000) (h1 : -9223372036854775808 <= wh) (h2 : wh <= 9223372036854775807) : keyOf Tryz.prog 115 (nameV s wh) = some (kN s wh) := by
  have hk : Tryz.prog.keyType 115 = true := by kernel_rfl
  have hc : Tryz.prog.cellsOf 115 = 2 := by kernel_rfl
  have hcs : Tryz.prog.cellsOf 9 = 1 := by kernel_rfl
  have hci : Tryz.prog.cellsOf 3 = 1 := by kernel_rfl
  have hw1 : (Lit.int .i64 wh).wf = true := by simp [Lit.wf, IntKind.min, IntKind.max, IntKind.signed, IntKind.bits]; omega
  have hsz : s.size <= maxLen := by unfold maxLen; omega
  have hf : (nameV s wh).formed Tryz.prog 115 = true := by
    unfold nameV Value.formed
    rw [Tryz.underlying115]
    simp [hc]
  obtain ⟨m, hm⟩ : ∃ m, Tryz.prog.types.size = m + 1 := ⟨Tryz.prog.types.size - 1, by have h0 : 0 < Tryz.prog.types.size := of_decide_eq_true (by kernel_rfl); omega⟩
  have e1 : Tryz.prog.keyLits (m + 1) 9 [.string s] = some [.string s.data.toList] := by
    unfold Program.keyLits
    rw [Tryz.underlying9]
    simp [hsz]
  have e2 : Tryz.prog.keyLits (m + 1) 3 [.int .i64 wh] = some [.int .i64 wh] := by
    unfold Program.keyLits
    rw [Tryz.underlying3]
    simp [hw1]
  have hl : Tryz.prog.keyLits (Tryz.prog.types.size + 1) 115 [.string s, .int .i64 wh] = some [.string s.data.toList, .int .i64 wh] := by
    rw [hm]
    unfold Program.keyLits
    rw [Tryz.underlying115]
    simp only [hc]
    rw [if_pos ⟨by rfl, by kernel_rfl⟩]
    simp [hcs, hci, e1, e2]
  unfold keyOf
  rw [Tryz.underlying115]
  simp only [hk, hf, Bool.and_self, if_true]
  rw [show (nameV s wh).cells.toList = [.string s, .int .i64 wh] from rfl, hl]
  rfl
def NmOk (s : ByteArray) (wh : Int) : Prop := s.size <= 100000 /\ -9223372036854775808 <= wh /\ wh <= 9223372036854775807
theorem keyN {s : ByteArray} {wh : Int} (h : NmOk s wh) : keyOf Tryz.prog 115 (nameV s wh) = some (kN s wh) := by
  exact name_key s wh h.1 h.2.1 h.2.2
theorem kN_inj {s s' : ByteArray} {wh wh' : Int} (h : NmOk s wh) (h' : NmOk s' wh') (e : kN s wh = kN s' wh') : s = s' /\ wh = wh' := by
  have h1 := keyN h
  have h2 := keyN h'
  rw [e] at h1
  have := zqd8.inj h1 h2
  unfold nameV at this
  simp at this
  exact this
def zq57 (s : ByteArray) (wh : Int) (L : List RuleZ) : Bool := L.any fun r => decide (r.text = s) && decide (r.wh = wh)
def NmView (M : DataW Unit) (L : List RuleZ) : Prop := ∀ (s : ByteArray) (wh : Int) (z : DataW Unit), NmOk s wh -> M.atKey (kN s wh) z = if zq57 s wh L = true then .lit (.bool true) else z
abbrev nmMap (w : World) (b n : Nat) (M : DataW Unit) : Prop := w.ownsMap Tryz.prog 115 (plainElem Tryz.prog 4) b n M
theorem NmView.put {M : DataW Unit} {L : List RuleZ} (h : NmView M L) (hm : IsMap M) (r : RuleZ) (hr : NmOk r.text r.wh) : NmView (M.put (kN r.text r.wh) (.lit (.bool true))) (L ++ [r]) := by
  intro s wh z hs
  have hn : zq57 s wh (L ++ [r]) = (zq57 s wh L || (decide (r.text = s) && decide (r.wh = wh))) := by
    unfold zq57
    rw [List.any_append]
    simp
  by_cases he : kN s wh = kN r.text r.wh
  · obtain ⟨e1, e2⟩ := kN_inj hs hr he
    rw [he, atKey_put_same hm (zqd8.key (keyN hr)), hn, decide_eq_true e1.symm, decide_eq_true e2.symm]
    simp
  · rw [atKey_put_other he, h s wh z hs, hn]
    have : (decide (r.text = s) && decide (r.wh = wh)) = false := by
      rw [Bool.and_eq_false_iff]
      by_cases e1 : r.text = s
      · right
        exact decide_eq_false (fun e2 => he (by rw [e1, e2]))
      · left
        exact decide_eq_false e1
    rw [this, Bool.or_false]
theorem zero_boolN (w : World) : (zeroValue 4).run Tryz.prog w = .ok (.bool false) w := by kernel_rfl
theorem plainElem_bool_invN {P : Program} {e : TypeId} (he : P.underlying e = some .bool) {v : Value} {z : DataW Unit × List MemPlace} (h : plainElem P e v = some z) : ∃ x, v = .bool x /\ z = (.lit (.bool x), []) := by
  unfold plainElem at h
  rw [he] at h
  cases v <;> simp at h
  exact ⟨_, rfl, h.symm⟩
theorem zqb8 {w : World} {b n : Nat} {M : DataW Unit} {L : List RuleZ} (h : nmMap w b n M) (hv : NmView M L) {s : ByteArray} {wh : Int} (hs : NmOk s wh) :
    (Instr.lookup 112 (.map (some b)) (nameV s wh) false).run Tryz.prog w = .ok (.bool (zq57 s wh L)) w := by
  obtain ⟨v, ps, hrun, hR⟩ := h.lookup zqd8 Tryz.underlying112 (zero_boolN w) (plainElem_bool Tryz.underlying4 false) (keyN hs)
  rw [hrun]
  have e : M.atKey (kN s wh) (.lit (.bool false)) = .lit (.bool (zq57 s wh L)) := by
    rw [hv s wh _ hs]
    cases zq57 s wh L <;> simp
  rw [e] at hR
  obtain ⟨x, rfl, hx⟩ := plainElem_bool_invN Tryz.underlying4 hR
  simp only [Prod.mk.injEq, DataW.lit.injEq, Lit.bool.injEq] at hx
  simp only [hx.1]
theorem nameIn_same (r : RuleZ) (L : List RuleZ) : zq57 r.text r.wh L = L.any (sameR r) := by
  unfold zq57 sameR
  congr 1
  funext x
  rw [show decide (x.text = r.text) = decide (r.text = x.text) from by simp [eq_comm], show decide (x.wh = r.wh) = decide (r.wh = x.wh) from by simp [eq_comm]]
theorem nameIn_own (c : Int) (s : ByteArray) (hs : byts s = [c]) (L : List RuleZ) : zq57 s 0 L = ownB L c := by
  unfold zq57 ownB
  congr 1
  funext x
  rw [Bool.and_comm]
  congr 1
  rw [Bool.eq_iff_iff, decide_eq_true_iff, decide_eq_true_iff]
  constructor
  · rintro rfl
    exact hs
  · intro h
    have h2 : byts x.text = byts s := by rw [h, hs]
    apply ByteArray.ext
    apply Array.toList_inj.1
    have inj : ∀ l m : List UInt8, l.map (fun b => (b.toNat : Int)) = m.map (fun b => (b.toNat : Int)) -> l = m := by
      intro l
      induction l with
      | nil => intro m hm; cases m with
        | nil => rfl
        | cons a m => simp at hm
      | cons a l ih =>
        intro m hm
        cases m with
        | nil => simp at hm
        | cons b m =>
          rw [List.map_cons, List.map_cons] at hm
          injection hm with h1 h2
          have h3 : a = b := UInt8.toNat_inj.1 (by omega)
          rw [ih m h2, h3]
    exact inj _ _ h2
end Go.Proofs.YtcfjepcflanjbaaGreat
