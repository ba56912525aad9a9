/- Reader: the reference's task. -/
import Derived.Test.YtfljgcpfmhhgcaaRdV
namespace Go.Proofs.Ytfljgcpfmhhgcaa
open Go.RowKit Go.Lab
set_option maxRecDepth 100000 in
set_option maxHeartbeats 2000000 in
theorem task30_any (way : Int) (v u : Value) (pl : List Pl) (l : List Int) (w : World) (hp : PlacesAt w v pl) (h : IntsAt w u l) : Calls Try.prog 41 #[.int .i64 way, v, u] w fun e w' => e = .returned (.int .i64 (taskZ way pl.length l)) ∧ ∃ n, w' = w.drewN n := by
  obtain ⟨a, c, rfl, hc, hm⟩ := h.1.form
  obtain ⟨b, d, rfl, hd, hm2⟩ := hp.form
  unfold maxLen at hm hm2
  by_cases h8 : 8 < l.length
  · have HZ : Hid (taskZ way pl.length l = 4) := hidep (if_pos h8)
    have h8' : (8 : Int) < (l.length : Int) := by omega
    go_enter Try.func41, Try.ntmps41
    go_wp2
    go_ret
    exact ⟨ret_val (congrArg _ HZ.out.symm), 0, rfl⟩
  · have HZ : Hid (taskZ way pl.length l = if taskGo pl.length (-1) l = false then 1 else if way < 0 ∨ 3 < way then 1 else 0) := hidep (if_neg h8)
    have h8' : (l.length : Int) ≤ 8 := by omega
    have hl8 : l.length ≤ 8 := by omega
    clear h8
    go_enter Try.func41, Try.ntmps41
    go_wp2
    go_loopw [7] (fun i wr => ∃ (k : Nat) (last : Int), k ≤ l.length ∧ i = .int .i64 k ∧ -1 ≤ last ∧ Hid (taskGo pl.length (-1) l = taskGo pl.length last (l.drop k)) ∧ Hid (k = 0 ∧ last = -1 ∨ ∃ (k' : Nat) (hk : k' < l.length), k = k' + 1 ∧ last = l[k'] ∧ 0 ≤ last) ∧ ∃ n, wr = w.drewN n) (fun i _ => l.length - (intOf i).toNat)
    case atStart => exact ⟨0, -1, Nat.zero_le _, rfl, by omega, hidep rfl, hidep (.inl ⟨rfl, rfl⟩), 0, rfl⟩
    case round =>
      obtain ⟨k, last, hk, rfl, hla, hg, HP, nd, rfl⟩ := hrel
      by_cases hlt : k < l.length
      · obtain ⟨bb, off, rfl, hb, hx⟩ := ints_get h hlt
        have HS := hidep (hg.out.trans (taskGo_step hlt))
        have HNX : Hid (∀ x, l[k] = x → 0 ≤ x → (k + 1 = 0 ∧ x = -1 ∨ ∃ (k' : Nat) (hk : k' < l.length), k + 1 = k' + 1 ∧ x = l[k'] ∧ 0 ≤ x)) := hidep (fun x hx h0 => .inr ⟨k, hlt, rfl, hx.symm, h0⟩)
        have HNX' := hidep (HNX.out _ rfl)
        have HQ : Hid (k = 0 ∧ last = -1 ∨ ∃ k' : Nat, k = k' + 1 ∧ 0 ≤ last ∧ w.cell? ⟨bb, off + k', none⟩ = some (.int .i64 last)) := hidep (by
          rcases HP.out with hp | ⟨k', hk', rfl, rfl, h0⟩
          · exact .inl hp
          · obtain ⟨b2, off2, he2, _, hq⟩ := ints_get h hk'
            injection he2 with he2
            injection he2 with hb2 ho2 _
            subst hb2 ho2
            exact .inr ⟨k', rfl, h0, hq⟩)
        have hk0 : (0 : Int) ≤ (k : Int) := by omega
        have hk1 : (k : Int) < (l.length : Int) := by omega
        clear h hg HNX HP
        generalize l[k] = x at *
        by_cases h1 : x ≤ last ∨ (pl.length : Int) ≤ x
        · have HR : Hid (taskZ way pl.length l = 1) := hidep (by rw [HZ.out, HS.out, if_pos h1, if_pos rfl])
          clear HS HZ HNX'
          by_cases hx0 : x < 0
          · have hd1 : decide (x < 0) = true := decide_eq_true hx0
            go_upto_region 6 with (fail)
            go_quiet (fail)
            go_wp2
            go_ret
            exact ⟨ret_val (congrArg _ HR.out.symm), _, by first | rfl | exact World.drewN_drewN ..⟩
          · have hd1 : decide (x < 0) = false := decide_eq_false hx0
            have hx1 : 0 ≤ x := by omega
            by_cases hxn : (pl.length : Int) ≤ x
            · have hd2 : decide ((pl.length : Int) ≤ x) = true := decide_eq_true hxn
              go_upto_region 6 with (fail)
              go_quiet (fail)
              go_wp2
              go_ret
              exact ⟨ret_val (congrArg _ HR.out.symm), _, by first | rfl | exact World.drewN_drewN ..⟩
            · have hd2 : decide ((pl.length : Int) ≤ x) = false := decide_eq_false hxn
              have hxn' : x < (pl.length : Int) := by omega
              have hxl : x ≤ last := by omega
              rcases HQ.out with ⟨rfl, rfl⟩ | ⟨k', rfl, hl0, hx'⟩
              · omega
              · have hwm : IntKind.i64.wrap ((k' : Int) + 1 - 1) = (k' : Int) := by rw [show (k' : Int) + 1 - 1 = (k' : Int) by omega]; exact IntWalk.i64_in _ (by omega)
                have hk'1 : (k' : Int) < (l.length : Int) := by omega
                have hk'0 : (0 : Int) ≤ (k' : Int) := by omega
                have hk'2 : (0 : Int) < (k' : Int) + 1 := by omega
                have hd3 : decide (x ≤ last) = true := decide_eq_true hxl
                clear h1
                go_upto_region 6 with (fail)
                go_quiet (fail)
                go_wp2
                go_ret
                exact ⟨ret_val (congrArg _ HR.out.symm), _, by first | rfl | exact World.drewN_drewN ..⟩
        · have HN := hidep (HS.out.trans (if_neg h1))
          have h1a : last < x := by omega
          have h1b : x < (pl.length : Int) := by omega
          have h0x : ¬ x < 0 := by omega
          have hd1 : decide (x < 0) = false := decide_eq_false h0x
          have hd2 : decide ((pl.length : Int) ≤ x) = false := decide_eq_false (by omega)
          have h0x' : 0 ≤ x := by omega
          clear HS h1
          rcases HQ.out with ⟨rfl, rfl⟩ | ⟨k', rfl, hl0, hx'⟩
          · go_upto_region 6 with (fail)
            simp only [Nat.add_zero] at hx
            go_quiet (fail)
            go_wp2
            go_roundw
            case rel => exact ⟨1, x, by omega, by go_num, by omega, HN, hidep (HNX'.out (by omega)), _, rfl⟩
            case measure => simp [intOf]; omega
          · have hwm : IntKind.i64.wrap ((k' : Int) + 1 - 1) = (k' : Int) := by rw [show (k' : Int) + 1 - 1 = (k' : Int) by omega]; exact IntWalk.i64_in _ (by omega)
            have hk'1 : (k' : Int) < (l.length : Int) := by omega
            have hk'0 : (0 : Int) ≤ (k' : Int) := by omega
            have hk'2 : (0 : Int) < (k' : Int) + 1 := by omega
            have hlx : ¬ x ≤ last := by omega
            have hd3 : decide (x ≤ last) = false := decide_eq_false hlx
            go_upto_region 6 with (fail)
            go_quiet (fail)
            go_wp2
            go_roundw
            case rel => exact ⟨k' + 1 + 1, x, by omega, by go_num, by omega, HN, hidep (HNX'.out (by omega)), _, rfl⟩
            case measure => simp [intOf]; omega
      · have hkl : k = l.length := by omega
        subst hkl
        have HT : Hid (taskGo pl.length (-1) l = true) := hidep (by rw [hg.out, List.drop_length]; rfl)
        have HW : Hid (taskZ way pl.length l = if way < 0 ∨ 3 < way then 1 else 0) := hidep (by rw [HZ.out, HT.out, if_neg (by decide)])
        clear HZ hg HP
        by_cases hw0 : way < 0
        · have HR := hidep (HW.out.trans (if_pos (.inl hw0)))
          go_wp2
          go_ret
          exact ⟨ret_val (congrArg _ HR.out.symm), _, by first | rfl | exact World.drewN_drewN ..⟩
        · have hw0' : 0 ≤ way := by omega
          by_cases hw3 : 3 < way
          · have HR := hidep (HW.out.trans (if_pos (.inr hw3)))
            go_wp2
            go_ret
            exact ⟨ret_val (congrArg _ HR.out.symm), _, by first | rfl | exact World.drewN_drewN ..⟩
          · have HR := hidep (HW.out.trans (if_neg (by omega)))
            have hw4 : way ≤ 3 := by omega
            go_wp2
            go_ret
            exact ⟨ret_val (congrArg _ HR.out.symm), _, by first | rfl | exact World.drewN_drewN ..⟩
end Go.Proofs.Ytfljgcpfmhhgcaa
