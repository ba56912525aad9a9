/- Journal: the reference's Text of a step. -/
import Derived.Test.YtipbkdlekanlmaaGreatDoorZr15
namespace Go.Proofs.YtipbkdlekanlmaaGreatDoor
open Go.RowKit Go.Lab Go.Jn Go.Disk
attribute [local go_sem] Oper.semAt_some
set_option maxRecDepth 100000
theorem range_map25 (f : Nat → Value) : (List.range 25).map f = [f 0, f 1, f 2, f 3, f 4, f 5, f 6, f 7, f 8, f 9, f 10, f 11, f 12, f 13, f 14, f 15, f 16, f 17, f 18, f 19, f 20, f 21, f 22, f 23, f 24] := rfl
theorem frame25 (t : Array Value) (ds : List Deferred) (h : t.size = 25) : ({ tmps := t, defers := ds } : Act) = { tmps := #[slot t 0, slot t 1, slot t 2, slot t 3, slot t 4, slot t 5, slot t 6, slot t 7, slot t 8, slot t 9, slot t 10, slot t 11, slot t 12, slot t 13, slot t 14, slot t 15, slot t 16, slot t 17, slot t 18, slot t 19, slot t 20, slot t 21, slot t 22, slot t 23, slot t 24], defers := ds } := by
  have e : t = ((List.range 25).map (slot t)).toArray := by
    apply Array.ext
    · simp [h]
    · intro i h1 h2
      simp [slot, Array.getD, h1]
  rw [range_map25] at e
  exact congrArg (fun x => ({ tmps := x, defers := ds } : Act)) e
def sizeZ (size : Int) : Nat := (min (max size 0) 8100).toNat
def fillB (fill : Int) (n : Nat) : List Int := (List.range n).map fun k : Nat => (fill + (k : Int)) % 256
/-- The text of a step. -/
def stepText (size fill : Int) : ByteArray := strOfNums (fillB fill (sizeZ size))
theorem fillB_rng (fill : Int) (n : Nat) : ∀ x ∈ fillB fill n, 0 ≤ x ∧ x < 256 := by
  intro x hx
  obtain ⟨k, _, rfl⟩ := List.mem_map.1 hx
  exact ⟨Int.emod_nonneg _ (by decide), Int.emod_lt_of_pos _ (by decide)⟩
theorem fillB_len (fill : Int) (n : Nat) : (fillB fill n).length = n := by simp [fillB]
theorem fillB_snoc (fill : Int) (n : Nat) : fillB fill (n + 1) = fillB fill n ++ [(fill + (n : Int)) % 256] := by simp [fillB, List.range_succ]
def TxI (fill : Int) (cs : Array Value) (B1 n : Nat) (w : World) (v iv : Value) (wr : World) : Prop := ∃ i : Nat, i ≤ n ∧ iv = .int .i64 (i : Nat) ∧ wr.ownsRow w.heap.size 5 1 v i (byC (fillB fill i)) ∧ wr.heap[B1]? = some (.cells cs 56) ∧ Below w.heap.size w wr
set_option maxHeartbeats 4000000 in
theorem textR_any (kd ix bt size fill : Int) (pa : Option Addr) (pn pc : Nat) (w : World) (_hf : 0 ≤ fill ∧ fill < 256) :
    Calls Tryz.prog 27 #[.agg #[.int .i64 kd, .int .i64 ix, .int .i64 bt, .int .i64 size, .int .u8 fill, .slice pa pn pc]] w fun e w' => e = .returned (.string (stepText size fill)) ∧ Below w.heap.size w w' := by
  have hnil : w.ownsRow w.heap.size 5 1 (.slice none 0 0) 0 (byC (fillB fill 0)) := ⟨rfl, .inl ⟨rfl, rfl⟩⟩
  go_enter Tryz.func27, Tryz.ntmps27
  go_upto_region 1 with (fail)
  obtain ⟨cs, hcs⟩ : ∃ cs : Array Value, cs = #[.int .i64 kd, .int .i64 ix, .int .i64 bt, .int .i64 size, .int .u8 fill, .slice pa pn pc] := ⟨_, rfl⟩
  refine wp_abs (fun X => X.heap[w.heap.size]? = some (.cells cs 56) ∧ Below w.heap.size w X) ⟨by rw [hcs]; exact heap_alloc_new _ _, (Below.refl _ _).alloc (Nat.le_refl _) _⟩ ?_
  rintro X ⟨hq1, hbX⟩
  obtain ⟨B1, hB1⟩ : ∃ B, B = w.heap.size := ⟨_, rfl⟩
  rw [← hB1] at hq1
  rw [← hB1]
  have HB1 := hidep hB1
  clear hB1
  obtain ⟨n, hn⟩ : ∃ n, n = sizeZ size := ⟨_, rfl⟩
  have hn8 : n ≤ 8100 ∧ (n : Int) = min (max size 0) 8100 := by unfold sizeZ at hn; omega
  have HN := hidep hn
  clear hn
  have hcl : X.cell? ⟨B1, 3, none⟩ = some (.int .i64 size) := by simp [World.cell?, hq1, hcs]
  have HCS := hidep hcs
  clear hcs
  refine wp_region_lit ?_
  refine wpList_value rfl (v := .pointer (some ⟨B1, 3, none⟩)) (w' := X) (by kernel_rfl) ?_
  refine wpList_value rfl (v := .int .i64 size) (w' := X) (by
    have e : ∀ ev : Operand → Value, ev (.tmp 6) = .pointer (some ⟨B1, 3, none⟩) → (execOp ev ⟨some 7, .load 3 (.tmp 6), 3, "", #[], none⟩).run Tryz.prog X = .ok (.value (.int .i64 size)) X := fun ev ha => by
      go_simp
    exact e _ (by kernel_rfl)) ?_
  refine wpList_value rfl (v := .int .i64 (max size 0)) (w' := X) (by
    have e : ∀ ev : Operand → Value, ev (.tmp 7) = .int .i64 size → ev (.const (.int .i64 0)) = .int .i64 0 → (execOp ev ⟨some 8, .call { callee := .builtin .max, args := #[.tmp 7, .const (.int .i64 0)], argTypes := #[3, 3] }, 3, "", #[], none⟩).run Tryz.prog X = .ok (.value (.int .i64 (max size 0))) X := fun ev ha hc => by
      clear hn8
      by_cases hle : size ≤ 0
      · have hm : max size 0 = 0 := by omega
        rw [hm]
        go_simp
        all_goals (intro h; omega)
      · have hm : max size 0 = size := by omega
        rw [hm]
        go_simp
        all_goals (intro h; omega)
    exact e _ (by kernel_rfl) rfl) ?_
  refine wpList_value rfl (v := .int .i64 (n : Int)) (w' := X) (by
    have e : ∀ ev : Operand → Value, ev (.tmp 8) = .int .i64 (max size 0) → ev (.const (.int .i64 8100)) = .int .i64 8100 → (execOp ev ⟨some 9, .call { callee := .builtin .min, args := #[.tmp 8, .const (.int .i64 8100)], argTypes := #[3, 3] }, 3, "", #[], none⟩).run Tryz.prog X = .ok (.value (.int .i64 (n : Int))) X := fun ev ha hc => by
      obtain ⟨m, hm⟩ : ∃ m, m = max size 0 := ⟨_, rfl⟩
      rw [← hm] at ha hn8
      have h2 := hn8.2
      clear hn8 hm
      by_cases hle : m ≤ 8100
      · have hx : (n : Int) = m := by omega
        rw [hx]
        go_simp
        all_goals (intro h; omega)
      · have hx : (n : Int) = 8100 := by omega
        rw [hx]
        go_simp
        all_goals (intro h; omega)
    exact e _ (by kernel_rfl) rfl) ?_
  refine wpList_value rfl (v := .int .i64 (n : Int)) (w' := X) (by kernel_rfl) ?_
  refine wpList_nil ?_
  apply_assumption
  have hn81 := hn8.1
  clear hn8 hcl
  have hnilX : X.ownsRow w.heap.size 5 1 (.slice none 0 0) 0 (byC (fillB fill 0)) := ⟨rfl, .inl ⟨rfl, rfl⟩⟩
  refine wp_cutA 25 (fun tm ds => ds = [] ∧ slot tm 1 = .pointer (some ⟨B1, 0, none⟩) ∧ slot tm 3 = .int .i64 (n : Int)) (by kernel_rfl) (by exact ⟨by kernel_rfl, by kernel_rfl, by kernel_rfl⟩) ?_
  rintro tA dA h25 ⟨rfl, e1, e3⟩
  rw [frame25 tA [] h25, e1, e3]
  clear h25 e1 e3 hnil
  go_upto_region 4 with (fail)
  refine wp_loop (LoopI 25 (fun tm ds wr => (slot tm 1) = .pointer (some ⟨B1, 0, none⟩) ∧ (slot tm 3) = .int .i64 (n : Nat) ∧ ds = [] ∧ TxI fill cs B1 n w (slot tm 4) (slot tm 5) wr)) (fun a' wr => n - natI (a'.tmps.getD 5 undef)) ?mainStart ?mainRound
  case' mainStart => refine LoopI.mk rfl ?_
  case' mainRound => (rintro ⟨t, ds⟩ wr ⟨hts, hrel⟩; dsimp only at hts hrel; rw [frame25 t ds hts])
  case mainStart => exact ⟨rfl, rfl, rfl, 0, Nat.zero_le _, rfl, hnilX, hq1, hbX⟩
  clear hnilX hq1 hbX
  obtain ⟨e1, e3, hds, i, hi, e5, hown, hq1, hbw⟩ := hrel
  subst hds
  obtain ⟨za, zc, hv, _, _⟩ := (Rd.of_own hown).form
  rw [hv] at hown
  rw [e1, e3, e5, hv]
  clear e1 e3 e5 hv hts
  have hsw := hbw.size
  by_cases hin : i < n
  · have hini : (i : Int) < (n : Int) := by omega
    have hcl : wr.cell? ⟨B1, 4, none⟩ = some (.int .u8 fill) := by simp [World.cell?, hq1, HCS.out]
    have hownA := fun o => own_below hown (Below.alloc (Below.refl wr.heap.size wr) (Nat.le_refl _) o)
    have hq1A := fun o => below_push ((Below.refl wr.heap.size wr).alloc (Nat.le_refl _) o) hq1
    have hsn := fillB_snoc fill i
    obtain ⟨x, hx⟩ : ∃ x, x = (fill + (i : Int)) % 256 := ⟨_, rfl⟩
    have hw1 : (fill + (i : Int) % 256) % 256 = x := by rw [hx]; omega
    have hxr : 0 ≤ x ∧ x < 256 := by omega
    rw [← hx] at hsn
    have HS := hidep hsn
    clear hx hsn
    go_wp2_with (first
      | (at_builtin; refine wpList_append_rd _ rfl (.tmp 15) (.tmp 21) rfl slByteR w.heap.size _ _ _ rfl (hownA _) _ _ _ _ rfl (Rd.fresh wr _ 5 1 1 rfl (by decide)) (by intro u hu; simp at hu; subst hu; rfl) (by unfold maxLen; omega) (by omega) (by simp; omega) ?_; intro v3 w3 hown3 hgr3 hat3 hnl3; clear hat3 hnl3; have hr1 := grown_other (hownA _) hgr3 (hq1A _) (by decide); have hb3 : Below w.heap.size w w3 := (hbw.alloc hsw _).grown hgr3 (by simp; omega) (fun g hg => ((hownA (.cells #[] 0)).lt g hg).1))
      | fail)
    refine ⟨LoopI.mk rfl ⟨rfl, rfl, rfl, i + 1, by omega, by show Value.int _ _ = _; go_num, by rw [HS.out, byC_snoc]; exact hown3, hr1, hb3⟩, ?_⟩
    show n - _ < n - _
    simp [natI]; omega
  · have hini : ¬ (i : Int) < (n : Int) := by omega
    have hin2 : i = n := by omega
    have hst : stepText size fill = strOfNums (fillB fill n) := by unfold stepText; rw [← HN.out]
    rw [hin2] at hown
    rw [hin2]
    have HST := hidep hst
    have hcv : (convert 81 9 (.slice za n zc)).run Tryz.prog wr = .ok (.string (strOfNums (fillB fill n))) wr := by
      rcases Nat.eq_zero_or_pos n with h0 | h0
      · rcases hown.2 with ⟨he, _⟩ | ⟨g, cap, cur, he, _⟩
        · injection he with he _ _
          subst he
          rw [h0]
          exact run_convert_bytes_nil (P := Tryz.prog) wr 81 5 (by kernel_rfl) (by kernel_rfl) 0 zc 9 (by kernel_rfl)
        · injection he with he _ _
          subst he
          rw [h0]
          exact run_convert_bytes_arg (P := Tryz.prog) wr 81 5 (by kernel_rfl) (by kernel_rfl) g 0 0 zc [] rfl (fun i hi => by omega) 9 (by kernel_rfl)
      · have hbt : BytR wr (.slice za n zc) (fillB fill n) := ⟨by rw [fillB_len]; exact (Rd.of_own hown).mono (fun _ _ => trivial), fillB_rng fill n⟩
        exact bytR_str hbt (by rw [fillB_len]; exact h0)
    clear hst hin2 hown
    go_wp2
    go_ret
    exact ⟨by rw [HST.out]; kernel_rfl, hbw⟩
end Go.Proofs.YtipbkdlekanlmaaGreatDoor
