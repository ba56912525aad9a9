/- Journal: the code's Damaged. -/
import Derived.Test.YtipbkdlekanlmaaDoorJs18
import Derived.Test.YtipbkdlekanlmaaDoorJs16
import Derived.Shelf.Strings.Repeat
import Derived.Ground.NamesProg
import Derived.Lib.Agree
import Derived.Test.YtipbkdlekanlmaaDoorRows
import Derived.Test.YtipbkdlekanlmaaDoorJs14
namespace Go.Proofs.YtipbkdlekanlmaaDoor
open Go.RowKit Go.Lab Go.Disk Go.Jn Go.Maps
attribute [local go_sem] Oper.semAt_some
set_option maxRecDepth 100000
/-- A map whose keys with true are the numbers of a list. -/
def SetView (M : DataW Unit) (L : List Int) : Prop := ∀ (i : Int) (z : DataW Unit), M.atKey (kI i) z = if i ∈ L then .lit (.bool true) else z
theorem SetView.put {M : DataW Unit} {L : List Int} (h : SetView M L) (hm : IsMap M) (x : Int) : SetView (M.put (kI x) (.lit (.bool true))) (L ++ [x]) := by
  intro i z
  by_cases hi : i = x
  · subst hi
    rw [atKey_put_same hm (i64_key _), if_pos (by simp)]
  · rw [atKey_put_other (kI_ne hi), h i z]
    simp [hi]
theorem look_set {w : World} {b n : Nat} {M : DataW Unit} {L : List Int} (h : wornMap w b n M) (hv : SetView M L) {i : Int} (hi : i64ok i) :
    (Instr.lookup 70 (.map (some b)) (.int .i64 i) false).run Tryd.prog w = .ok (.bool (decide (i ∈ L))) w := by
  obtain ⟨v, ps, hrun, hR⟩ := h.lookup keyedInt Tryd.underlying70 (zero_bool w) (plainElem_bool Tryd.underlying4 false) (keyI hi)
  rw [hrun]
  have e : M.atKey (kI i) (.lit (.bool false)) = .lit (.bool (decide (i ∈ L))) := by
    rw [hv i]
    by_cases hq : i ∈ L <;> simp [hq]
  rw [e] at hR
  obtain ⟨x, rfl, hx⟩ := plainElem_bool_inv Tryd.underlying4 hR
  simp only [Prod.mk.injEq, DataW.lit.injEq, Lit.bool.injEq] at hx
  simp only [hx.1]
theorem take_succI (l : List Int) (i : Nat) (h : i < l.length) : l.take (i + 1) = l.take i ++ [l[i]] := by
  rw [List.take_add_one, List.getElem?_eq_getElem h]
  rfl
def dmgTo (L : List Int) (k : Nat) : List Int := ((List.range k).map (fun k : Nat => (k : Int))).filter fun n => decide (1 ≤ n) && decide (n ∉ L)
theorem dmg_succ (L : List Int) (k : Nat) (h : 1 ≤ k) : dmgTo L (k + 1) = dmgTo L k ++ if ((k : Nat) : Int) ∈ L then [] else [(k : Int)] := by
  unfold dmgTo
  rw [List.range_succ, List.map_append, List.filter_append]
  congr 1
  have h1 : (1 : Int) ≤ (k : Int) := by omega
  by_cases hm : (k : Int) ∈ L <;> simp [hm, h1]
theorem dmg_len (L : List Int) (k : Nat) : (dmgTo L k).length ≤ k := by
  unfold dmgTo
  refine Nat.le_trans (List.length_filter_le _ _) ?_
  simp
def DaI (L : List Int) (n : Nat) (w : World) (mb : Nat) (iv : Value) (wr : World) : Prop := ∃ (i : Nat) (M : DataW Unit), i ≤ n ∧ iv = .int .i64 (i : Nat) ∧ wornMap wr mb i M ∧ SetView M (L.take i) ∧ Below w.heap.size w wr
def DaJ (L : List Int) (n : Nat) (w : World) (mb : Nat) (ov iv : Value) (wr : World) : Prop := ∃ (i m : Nat) (M : DataW Unit), 1 ≤ i ∧ i ≤ n ∧ iv = .int .i64 (i : Nat) ∧ wornMap wr mb m M ∧ SetView M L ∧ wr.ownsRow w.heap.size 3 1 ov (dmgTo L i).length (intsC (dmgTo L i)) ∧ Below w.heap.size w wr
set_option maxHeartbeats 8000000 in
theorem damaged_any (p dv : Value) (j : JZ) (w : World) (lo : Nat) (h : JAt w lo p dv j) (hx : 1 ≤ j.next ∧ j.next ≤ 100000) (hr : ∀ x ∈ j.nums, -9223372036854775808 ≤ x ∧ x ≤ 9223372036854775807) : Calls Tryd.prog 25 #[p] w fun e w' => ∃ v, e = .returned v ∧ w'.ownsRow w.heap.size 3 1 v (damagedZ j).length (intsC (damagedZ j)) ∧ Below w.heap.size w w' := by
  obtain ⟨b, nv, bv, tv, rfl, hj⟩ := h
  have hcl := hj.cells
  have hrn := (Rd.of_own hj.rn).mono (T' := fun _ => True) (fun _ _ => trivial)
  have hl := hj.len.1
  obtain ⟨L, hL⟩ : ∃ L, L = j.nums := ⟨_, rfl⟩
  obtain ⟨x, hxe⟩ : ∃ x : Nat, j.next = (x : Int) := ⟨j.next.toNat, by omega⟩
  rw [← hL] at hr
  have hrg := hidep hr
  clear hr
  have hdm : damagedZ j = dmgTo L x := by
    unfold damagedZ dmgTo
    rw [hxe, Int.toNat_natCast, hL]
  rw [hdm]
  rw [← hL] at hrn hl
  rw [hxe] at hx
  obtain ⟨na, nc, rfl, hn1, hn2⟩ := hrn.form
  have HC := hidep (fun Y (hY : Below w.heap.size w Y) => And.intro (Turned.cell (Turned.of_below (T := fun _ => False) hY) hcl.2.1 (fun h => h)) (And.intro (Turned.cell (Turned.of_below (T := fun _ => False) hY) hcl.2.2.2.2.1 (fun h => h)) (hrn.below hY)))
  rw [hxe] at HC
  have HN := hidep hxe
  obtain ⟨n, hn⟩ : ∃ n, n = L.length := ⟨_, rfl⟩
  rw [← hn] at HC hn1 hl
  have HL := hidep hn
  have hc1 := (HC.out (w.alloc (.map #[] 0)) ((Below.refl _ _).alloc (Nat.le_refl _) _)).1
  clear hj hcl hrn hL hxe hdm hn
  unfold maxLen at hn2
  have hmm := @run_makeMap Tryd.prog
  go_enter Tryd.func25, Tryd.ntmps25
  go_upto_region 3 with (fail)
  have hmp := World.ownsMap_made (H := Unit) w Tryd.prog 3 (plainElem Tryd.prog 4)
  refine wp_abs (fun X => wornMap X w.heap.size 0 (.map []) ∧ Below w.heap.size w X) ⟨hmp, (Below.refl _ _).alloc (Nat.le_refl _) _⟩ ?_
  rintro X ⟨hmX, hbX⟩
  obtain ⟨mb, hmb⟩ : ∃ mb, mb = w.heap.size := ⟨_, rfl⟩
  rw [← hmb] at hmX
  rw [← hmb]
  have HMB := hidep hmb
  clear hmb hmp hmm
  refine wp_loop (LoopI 38 (fun tm ds wr => (slot tm 0) = .pointer (some ⟨b, 0, none⟩) ∧ (slot tm 3) = .map (some mb) ∧ (slot tm 12) = .slice na n nc ∧ (slot tm 13) = .int .i64 (n : Nat) ∧ ds = [] ∧ DaI L n w mb (slot tm 14) wr)) (fun a' wr => n - natI (a'.tmps.getD 14 undef)) ?wr1Start ?wr1Round
  case' wr1Start => refine LoopI.mk rfl ?_
  case' wr1Round => (rintro ⟨t, ds⟩ wr ⟨hts, hrel⟩; dsimp only at hts hrel; rw [frame38 t ds hts])
  case wr1Start => exact ⟨rfl, rfl, rfl, rfl, rfl, 0, .map [], Nat.zero_le _, rfl, hmX, by intro i z; rfl, hbX⟩
  clear hmX hbX hc1
  obtain ⟨e0, e3, e12, e13, hds, i, M, hi, e14, hmX, hsv, hbw⟩ := hrel
  subst hds
  rw [e0, e3, e12, e13, e14]
  clear e0 e3 e12 e13 e14 hts
  by_cases hin : i < n
  · have hini : (i : Int) < (n : Int) := by omega
    have hi0 : (0 : Int) ≤ (i : Int) := by omega
    have hiL : i < L.length := by rw [← HL.out]; exact hin
    obtain ⟨g, o, rfl, hg, hcell⟩ := (HC.out wr hbw).2.2.at (by omega)
    have hci := hcell i (.int .i64 L[i]) (by simp [intsC, hiL])
    obtain ⟨x0, hx0⟩ : ∃ x0, x0 = L[i] := ⟨_, rfl⟩
    have hLr : -9223372036854775808 ≤ x0 ∧ x0 ≤ 9223372036854775807 := by rw [hx0]; exact hrg.out _ (List.getElem_mem hiL)
    rw [← hx0] at hci
    obtain ⟨w3, hr3, ho3, hg3⟩ := hmX.update (P := Tryd.prog) keyedInt Tryd.underlying70 (by unfold maxLen; omega) (keyI (i64ok_mk hLr)) (plainElem_bool Tryd.underlying4 true)
    have HS := hidep (show SetView (M.put (kI x0) (.lit (.bool true))) (L.take (i + 1)) from by
      have := hsv.put hmX.isMap x0
      rw [hx0, ← take_succI L i hiL] at this
      rw [hx0]
      exact this)
    have hb3 : Below w.heap.size w w3 := below_own hbw hg3 (fun r hr => by injection hr with hr; rw [← hr, HMB.out]; exact Nat.le_refl _) hbw.size
    have HI := hidep (And.intro ho3 hb3)
    clear hx0 hsv hmX hcell ho3 hg3 hb3
    go_wp2
    refine ⟨LoopI.mk rfl ⟨rfl, rfl, rfl, rfl, rfl, i + 1, _, by omega, by show Value.int _ _ = _; go_num, HI.out.1, HS.out, HI.out.2⟩, ?_⟩
    show n - _ < n - _
    simp [natI]; omega
  · have hini : ¬ (i : Int) < (n : Int) := by omega
    have hin2 : i = n := by omega
    rw [hin2, HL.out, List.take_length] at hsv
    have hnil : wr.ownsRow w.heap.size 3 1 (.slice none 0 0) (dmgTo L 1).length (intsC (dmgTo L 1)) := ⟨rfl, .inl ⟨rfl, rfl⟩⟩
    have HI := hidep (And.intro hmX (And.intro hsv (And.intro hnil hbw)))
    clear hin2 hmX hsv hnil hbw hi hin
    go_upto_region 9 with (fail)
    clear hini
    refine wp_loop (LoopI 38 (fun tm ds wr => (slot tm 0) = .pointer (some ⟨b, 0, none⟩) ∧ (slot tm 3) = .map (some mb) ∧ ds = [] ∧ DaJ L x w mb (slot tm 6) (slot tm 7) wr)) (fun a' wr => x - natI (a'.tmps.getD 7 undef)) ?wr2Start ?wr2Round
    case' wr2Start => refine LoopI.mk rfl ?_
    case' wr2Round => (rintro ⟨t, ds⟩ wr ⟨hts, hrel⟩; dsimp only at hts hrel; rw [frame38 t ds hts])
    case wr2Start => exact ⟨rfl, rfl, rfl, 1, i, M, Nat.le_refl _, by omega, rfl, HI.out.1, HI.out.2.1, HI.out.2.2.1, HI.out.2.2.2⟩
    clear HI
    obtain ⟨e0, e3, hds, k, m, M, hk1, hk2, e7, hmX, hsv, hown, hbw⟩ := hrel
    subst hds
    rw [e0, e3, e7]
    clear e0 e3 e7 hts
    obtain ⟨ov, hov⟩ : ∃ ov, ov = slot t 6 := ⟨_, rfl⟩
    rw [← hov] at hown ⊢
    clear hov
    have hcn := (HC.out wr hbw).2.1
    by_cases hkx : k < x
    · have hkxi : (k : Int) < (x : Int) := by omega
      have hlk := look_set hmX hsv (i64ok_mk (show -9223372036854775808 ≤ (k : Int) ∧ (k : Int) ≤ 9223372036854775807 from by omega))
      have hsuc := dmg_succ L k hk1
      have hdl := dmg_len L k
      obtain ⟨bm, hbm⟩ : ∃ bm, bm = decide ((k : Int) ∈ L) := ⟨_, rfl⟩
      rw [← hbm] at hlk
      cases bm with
      | true =>
        rw [if_pos (of_decide_eq_true hbm.symm), List.append_nil] at hsuc
        have HI := hidep (And.intro hmX (And.intro hsv (And.intro hown (And.intro hbw hsuc))))
        clear hmX hsv hown hbw hsuc hbm hdl
        go_wp2
        refine ⟨LoopI.mk rfl ⟨rfl, rfl, rfl, k + 1, m, M, by omega, by omega, by show Value.int _ _ = _; go_num, HI.out.1, HI.out.2.1, by rw [HI.out.2.2.2.2]; exact HI.out.2.2.1, HI.out.2.2.2.1⟩, ?_⟩
        show x - _ < x - _
        simp [natI]; omega
      | false =>
        rw [if_neg (of_decide_eq_false hbm.symm)] at hsuc
        obtain ⟨oa, oc, rfl, hol, hoc⟩ := (Rd.of_own hown).form
        have hownA := own_below hown ((Below.refl _ _).alloc (Nat.le_refl _) (.cells #[.int .i64 (k : Int)] 3))
        have hlit := Rd.fresh wr #[.int .i64 (k : Int)] 3 1 1 rfl (by decide)
        have hbs := hbw.size
        have hml := hmX.lt
        have hmwr : wornMap (wr.alloc (.cells #[.int .i64 (k : Int)] 3)) mb m M := hmX.alloc _
        have HI := hidep (And.intro hmwr (And.intro hsv (And.intro hbw (And.intro hsuc (show ∀ r, (Value.slice oa (dmgTo L k).length oc).ownBlock = some r → r ≠ mb from fun r hr e => by
          rcases hown.2 with ⟨h1, _⟩ | ⟨g, cap, cur, h1, _, hq, _⟩
          · rw [h1] at hr; cases hr
          · rw [h1] at hr
            injection hr with hr
            subst hr e
            obtain ⟨es, cl, hq2, _⟩ := hmX
            rw [hq] at hq2
            cases hq2)))))
        clear hmX hmwr hsv hbw hsuc hbm hown
        go_wp2_with (first
          | (at_builtin; refine wpList_append_rd _ rfl (.tmp 33) (.tmp 35) rfl slInts w.heap.size _ _ _ rfl hownA _ _ _ _ rfl hlit (by intro u hu; simp at hu; subst hu; rfl) (by unfold maxLen; omega) (by omega) (by simp; omega) ?_; intro v9 w9 ho9 hg9 hd9 hnl9; clear hd9 hnl9)
          | fail)
        have hb9 : Below w.heap.size w w9 := below_own (HI.out.2.2.1.alloc hbs _) hg9 (own_blk hownA) (by simp; omega)
        have hm9 : wornMap w9 mb m M := ownsMap_block HI.out.1 (hg9.block mb (by simp; omega) (fun e => HI.out.2.2.2.2 mb e.symm rfl))
        refine ⟨LoopI.mk rfl ⟨rfl, rfl, rfl, k + 1, m, M, by omega, by omega, by show Value.int _ _ = _; go_num, hm9, HI.out.2.1, by rw [HI.out.2.2.2.1, List.length_append, intsC_snoc']; exact ho9, hb9⟩, ?_⟩
        show x - _ < x - _
        simp [natI]; omega
    · have hkxi : ¬ (k : Int) < (x : Int) := by omega
      have hkx2 : k = x := by omega
      rw [hkx2] at hown
      rw [hkx2]
      clear hkx2 hmX hsv
      go_wp2
      go_ret
      exact ⟨_, rfl, hown, hbw⟩
end Go.Proofs.YtipbkdlekanlmaaDoor
/- The library's functions, as the shelf's contracts ask it: written by the kit's lay-plain, names turned. -/
namespace Go.Proofs.YtipbkdlekanlmaaDoor
open Go.Shelf
def shRepeat_ren : Go.Shelf.Ren := ⟨fun | 105 => 23 | 212 => 39 | 99 => 40 | 165 => 41 | 166 => 42 | 170 => 43 | 169 => 44 | 263 => 55 | 264 => 56 | 206 => 57 | 240 => 58 | 241 => 59 | 276 => 70 | 277 => 71 | n => n, fun | 9 => 9 | 3 => 3 | 4 => 4 | 20 => 20 | 0 => 0 | 46 => 85 | 109 => 86 | 5 => 5 | 72 => 91 | 76 => 95 | 51 => 109 | 146 => 110 | 53 => 112 | 148 => 113 | 70 => 89 | 37 => 36 | 75 => 94 | 127 => 115 | 164 => 130 | 80 => 97 | n => n, fun | n => n⟩
theorem shRepeat : Go.Proofs.Lays.n105 Tryd.prog shRepeat_ren := {
  mixed := by kernel_rfl
  f99 := Tryd.func40.trans (congrArg some (by kernel_rfl))
  f105 := Tryd.func23.trans (congrArg some (by kernel_rfl))
  f165 := Tryd.func41.trans (congrArg some (by kernel_rfl))
  f166 := Tryd.func42.trans (congrArg some (by kernel_rfl))
  f169 := Tryd.func44.trans (congrArg some (by kernel_rfl))
  f170 := Tryd.func43.trans (congrArg some (by kernel_rfl))
  f206 := Tryd.func57.trans (congrArg some (by kernel_rfl))
  f212 := Tryd.func39.trans (congrArg some (by kernel_rfl))
  f240 := Tryd.func58.trans (congrArg some (by kernel_rfl))
  f241 := Tryd.func59.trans (congrArg some (by kernel_rfl))
  f263 := Tryd.func55.trans (congrArg some (by kernel_rfl))
  f264 := Tryd.func56.trans (congrArg some (by kernel_rfl))
  f276 := Tryd.func70.trans (congrArg some (by kernel_rfl))
  f277 := Tryd.func71.trans (congrArg some (by kernel_rfl))
  t0 := Tryd.underlying0
  a0 := Tryd.isAgg0
  z0 := Tryd.sizeOf0
  v0 := Tryd.zeroValue0
  t3 := Tryd.underlying3
  a3 := Tryd.isAgg3
  z3 := Tryd.sizeOf3
  v3 := Tryd.zeroValue3
  t4 := Tryd.underlying4
  a4 := Tryd.isAgg4
  z4 := Tryd.sizeOf4
  v4 := Tryd.zeroValue4
  t5 := Tryd.underlying5
  a5 := Tryd.isAgg5
  z5 := Tryd.sizeOf5
  v5 := Tryd.zeroValue5
  t9 := Tryd.underlying9
  a9 := Tryd.isAgg9
  z9 := Tryd.sizeOf9
  v9 := Tryd.zeroValue9
  t20 := Tryd.underlying20
  a20 := Tryd.isAgg20
  z20 := Tryd.sizeOf20
  v20 := Tryd.zeroValue20
  t37 := Tryd.underlying36
  a37 := Tryd.isAgg36
  z37 := Tryd.sizeOf36
  v37 := Tryd.zeroValue36
  t46 := Tryd.underlying85
  a46 := Tryd.isAgg85
  z46 := Tryd.sizeOf85
  v46 := Tryd.zeroValue85
  t51 := Tryd.underlying109
  a51 := Tryd.isAgg109
  z51 := Tryd.sizeOf109
  v51 := Tryd.zeroValue109
  t53 := Tryd.underlying112
  a53 := Tryd.isAgg112
  z53 := Tryd.sizeOf112
  v53 := Tryd.zeroValue112
  t70 := Tryd.underlying89
  a70 := Tryd.isAgg89
  z70 := Tryd.sizeOf89
  v70 := Tryd.zeroValue89
  t72 := Tryd.underlying91
  a72 := Tryd.isAgg91
  z72 := Tryd.sizeOf91
  v72 := Tryd.zeroValue91
  t75 := Tryd.underlying94
  a75 := Tryd.isAgg94
  z75 := Tryd.sizeOf94
  v75 := Tryd.zeroValue94
  t76 := Tryd.underlying95
  a76 := Tryd.isAgg95
  z76 := Tryd.sizeOf95
  v76 := Tryd.zeroValue95
  t109 := Tryd.underlying86
  a109 := Tryd.isAgg86
  z109 := Tryd.sizeOf86
  v109 := Tryd.zeroValue86
  t127 := Tryd.underlying115
  a127 := Tryd.isAgg115
  z127 := Tryd.sizeOf115
  v127 := Tryd.zeroValue115
  t146 := Tryd.underlying110
  a146 := Tryd.isAgg110
  z146 := Tryd.sizeOf110
  v146 := Tryd.zeroValue110
  t148 := Tryd.underlying113
  a148 := Tryd.isAgg113
  z148 := Tryd.sizeOf113
  v148 := Tryd.zeroValue113
  t164 := Tryd.underlying130
  a164 := Tryd.isAgg130
  z164 := Tryd.sizeOf130
  v164 := Tryd.zeroValue130 }
end Go.Proofs.YtipbkdlekanlmaaDoor
/- Journal, plain: the examples of the law. -/
namespace Go.Jn
open Go Go.Lab Go.Disk Go.Proofs.YtipbkdlekanlmaaDoor
def exA : ByteArray := ⟨#[97]⟩
def exX : ByteArray := ⟨(List.replicate 50 120).toArray⟩
def ex1 : Int × Int × JZ × Dk := appendZ jz0 (newD 4) exA
def ex2 : Int × Int × JZ × Dk := appendZ ex1.2.2.1 ex1.2.2.2 exX
def exD : Dk := rotD ex2.2.2.2 1 70
def exK : JZ := openZ exD
def ex3 : Int × Int × JZ × Dk := appendZ exK exD ⟨#[98]⟩
def ex4 : Int × Int × JZ × Dk := appendZ ex3.2.2.1 ex3.2.2.2 ⟨#[99]⟩
theorem ex1_ok : (ex1.1, ex1.2.1) = (1, 0) := by kernel_rfl
theorem ex2_ok : (ex2.1, ex2.2.1, roomZ ex2.2.2.1 ex2.2.2.2) = (2, 0, 1) := by kernel_rfl
theorem exK_ok : exK.closed = false := by kernel_rfl
theorem ex3_ok : (ex3.1, ex3.2.1, ex3.2.2.1.nums, ex3.2.2.1.bad) = (3, 0, [1, 3], [1]) := by kernel_rfl
theorem ex3_damaged : damagedZ ex3.2.2.1 = [2] := by kernel_rfl
theorem ex3_texts : ex3.2.2.1.texts = [exA, ⟨#[98]⟩] := by kernel_rfl
theorem ex4_ok : ex4.2.1 = 24 := by kernel_rfl
theorem ex5_ok : packE 1 exA = 0 ∧ (packL 1 exA).length = 1 := ⟨by kernel_rfl, by kernel_rfl⟩
theorem ex6_ok : unpZ ((packL 1 exA).headD ByteArray.empty) = ⟨1, 0, 1, exA, true⟩ := by kernel_rfl
end Go.Jn
/- strings.Repeat of "x", 50 times (the law's example), by the shelf's contract. -/
namespace Go.Proofs.YtipbkdlekanlmaaDoor
open Go.Shelf Go.RowKit Go.Lab Go.Jn
theorem shExtra : Builder.Extra Tryd.prog shRepeat_ren where
  sizeBuilder := by kernel_rfl
  liesBuilder := by kernel_rfl
  t5 := shRepeat.t5
  a5 := shRepeat.a5
  z5 := shRepeat.z5
  v5 := shRepeat.v5
  infoByte := by kernel_rfl
  cellsByte := by kernel_rfl
  sizeByte := by kernel_rfl
  neB5 := by decide
theorem shRepeat_no : shRepeat_ren.f 105 = 23 := by kernel_rfl
theorem repeat_x (w : World) : Calls Tryd.prog 23 #[.string ⟨#[120]⟩, .int .i64 50] w fun e w' => e = .returned (.string exX) ∧ Below w.heap.size w w' := by
  have h := Any.strings_Repeat shRepeat shExtra ⟨#[120]⟩ 50 w (by omega) (by decide)
  rw [shRepeat_no] at h
  have e : Lib.repeatL (ByteArray.mk #[120]).data.toList 50 = List.replicate 50 120 := by decide
  refine h.mono fun e' w' ⟨he, hw⟩ => ⟨?_, hw⟩
  rw [he, e]
  rfl
end Go.Proofs.YtipbkdlekanlmaaDoor
/- Journal, plain: bounds of a journal; the disk's size. -/
namespace Go.Jn
open Go Go.Lab Go.Disk Go.Proofs.YtipbkdlekanlmaaDoor
/-- A journal on n sectors with at most m records. -/
structure JOk (j : JZ) (n m : Nat) : Prop where
  s0 : 0 ≤ j.stop
  s1 : j.stop ≤ (n : Int)
  n0 : 1 ≤ j.next
  n1 : j.next ≤ 4097
  nl : j.nums.length ≤ m
  tl : j.texts.length ≤ m
  bl : j.bad.length ≤ n
  nr : ∀ x ∈ j.nums, 0 ≤ x ∧ x ≤ 4096
theorem JOk.mono {j : JZ} {n m m' : Nat} (h : JOk j n m) (hm : m ≤ m') : JOk j n m' := ⟨h.s0, h.s1, h.n0, h.n1, Nat.le_trans h.nl hm, Nat.le_trans h.tl hm, h.bl, h.nr⟩
theorem scanAll_ok : ∀ (l : List ByteArray) (j : JZ) (k n : Nat), k + l.length ≤ n → 0 ≤ j.stop → j.stop ≤ (k : Int) → 1 ≤ j.next → j.next ≤ 4097 → j.bad.length ≤ k → j.nums = [] → j.texts = [] → JOk (scanAll j k l) n 0
  | [], j, k, n, h, h0, h1, h2, h3, h4, h5, h6 => ⟨h0, by show j.stop ≤ _; simp at h; omega, h2, h3, by show j.nums.length ≤ 0; rw [h5]; simp, by show j.texts.length ≤ 0; rw [h6]; simp, by show j.bad.length ≤ n; simp at h; omega, by intro x hx; have : x ∈ j.nums := hx; rw [h5] at this; cases this⟩
  | s :: r, j, k, n, h, h0, h1, h2, h3, h4, h5, h6 => by
    have hu := unpZ_rng s
    rw [scanAll]
    rw [List.length_cons] at h
    refine scanAll_ok r (scanZ j k s) (k + 1) n (by omega) ?_ ?_ ?_ ?_ ?_ h5 h6
    · unfold scanZ; simp only; split <;> omega
    · unfold scanZ; simp only; split <;> omega
    · show 1 ≤ max j.next ((unpZ s).num + 1); omega
    · show max j.next ((unpZ s).num + 1) ≤ 4097; omega
    · unfold scanZ; simp only; split
      · rw [List.length_append]; exact Nat.add_le_add_right h4 1
      · omega
theorem found_ok {j : JZ} {n m : Nat} (h : JOk j n m) (num : Int) (t : ByteArray) (hn : 0 ≤ num ∧ num ≤ 4096) : JOk (foundZ j num t) n (m + 1) := by
  unfold foundZ
  split
  · exact h.mono (by omega)
  · refine ⟨h.s0, h.s1, h.n0, h.n1, ?_, ?_, h.bl, ?_⟩
    · show (j.nums ++ [num]).length ≤ _
      rw [List.length_append]; exact Nat.add_le_add_right h.nl 1
    · show (j.texts ++ [t]).length ≤ _
      rw [List.length_append]; exact Nat.add_le_add_right h.tl 1
    · intro x hx
      have hx : x ∈ j.nums ++ [num] := hx
      rcases List.mem_append.1 hx with hx | hx
      · exact h.nr x hx
      · rw [List.mem_singleton.1 hx]; exact hn
theorem recsZ_ok : ∀ (f : Nat) (j : JZ) (l : List PartZ) (n m : Nat), JOk j n m → (∀ p ∈ l, 0 ≤ p.num ∧ p.num ≤ 4096) → (∀ L : List PartZ, (∀ p ∈ L, p ∈ l) → (recordZ L).2.2 = true → 1 ≤ (recordZ L).2.1) → JOk (recsZ f j l) n (m + l.length)
  | 0, j, l, n, m, h, _, _ => h.mono (by omega)
  | f + 1, j, [], n, m, h, _, _ => h.mono (by omega)
  | f + 1, j, p :: r, n, m, h, hp, hr => by
    rw [recsZ]
    split
    · rename_i hk
      have h1 := hr (p :: r) (fun _ h => h) hk
      have h2 := recsZ_ok f (foundZ j p.num (recordZ (p :: r)).1) ((p :: r).drop (recordZ (p :: r)).2.1.toNat) n (m + 1) (found_ok h _ _ (hp p (by simp))) (fun q hq => hp q (List.mem_of_mem_drop hq)) (fun L hL => hr L (fun q hq => List.mem_of_mem_drop (hL q hq)))
      refine h2.mono ?_
      rw [List.length_drop, List.length_cons]
      omega
    · have h2 := recsZ_ok f j r n m h (fun q hq => hp q (by simp [hq])) (fun L hL => hr L (fun q hq => by simp [hL q hq]))
      refine h2.mono ?_
      rw [List.length_cons]
      omega
theorem rec_pos (L : List PartZ) (h : (recordZ L).2.2 = true) (hl : ∀ p ∈ L, p.ok = true → 0 ≤ p.left ∧ p.left ≤ 8000) : 1 ≤ (recordZ L).2.1 := by
  cases L with
  | nil => simp [recordZ, part0] at h
  | cons p r =>
    have e : recordZ (p :: r) = if p.ok = false ∨ p.part ≠ 0 ∨ ((p :: r).length : Int) < cntZ p.left then (ByteArray.empty, 0, false) else if recAll p 0 ((p :: r).take (cntZ p.left).toNat) = true then (payAll ((p :: r).take (cntZ p.left).toNat), cntZ p.left, true) else (ByteArray.empty, 0, false) := rfl
    rw [e] at h ⊢
    split at h
    · cases h
    · rename_i hc
      split at h
      · rename_i hA
        rw [if_neg hc, if_pos hA]
        have hok : p.ok = true := by
          cases hq : p.ok with
          | true => rfl
          | false => exact absurd (.inl hq) hc
        have h8 := hl p (by simp) hok
        show 1 ≤ cntZ p.left
        unfold cntZ
        rw [if_neg (by omega)]
        omega
      · cases h
theorem unp_left0 (s : ByteArray) (h : (unpZ s).ok = true) : (unpZ s).left ≤ 8000 ∧ 1 ≤ (unpZ s).num := by
  have hr := unpZ_rng s
  unfold unpZ at h hr ⊢
  split at h
  · cases h
  · rename_i h1
    rw [if_neg h1] at hr ⊢
    split at h
    · cases h
    · rename_i h2
      rw [if_neg h2] at hr ⊢
      have h3 : ¬ 8000 < 48 * partNo (nums s) + leftZ (nums s) := fun h => h2 (.inr (.inr (.inr (.inl h))))
      have h4 : ¬ numZ (nums s) = 0 := fun h => h2 (.inr (.inl h))
      simp only at hr ⊢
      omega
theorem journal_ok (l : List ByteArray) : JOk (journalZ l) l.length l.length := by
  have h1 := scanAll_ok l jz0 0 l.length (by omega) (by decide) (by decide) (by decide) (by decide) (by decide) rfl rfl
  have h2 := recsZ_ok (l.length + 1) (scanAll jz0 0 l) (l.map unpZ) l.length 0 h1 (fun p hp => by
    obtain ⟨s, _, rfl⟩ := List.mem_map.1 hp
    have := unpZ_rng s
    omega) (fun L hL hk => rec_pos L hk (fun p hp hok => by
    obtain ⟨s, _, rfl⟩ := List.mem_map.1 (hL p hp)
    have h1 := unpZ_rng s
    have h2 := unp_left0 s hok
    omega))
  rw [List.length_map, Nat.zero_add] at h2
  exact h2
theorem reads_lenZ (D : Dk) : (readsZ D).length = D.s.length := by simp [readsZ]
theorem open_ok (D : Dk) : JOk (openZ D) D.s.length D.s.length := by
  have := journal_ok (readsZ D)
  rw [reads_lenZ] at this
  exact this
/-! ### the size of the disk stays -/
theorem write_len (D : Dk) (i : Int) (s : ByteArray) : (writeD D i s).s.length = D.s.length := by
  unfold writeD
  repeat' split
  · rfl
  · rfl
  · rfl
  · rw [stepD_s]
  · show (writeS D.s i.toNat s).length = _
    unfold writeS
    rw [List.length_set]
theorem flush_len (D : Dk) : (flushD D).s.length = D.s.length := by
  unfold flushD
  repeat' split
  · rfl
  · rw [stepD_s]
  · exact mountS_len _ _
theorem writes_len : ∀ (l : List ByteArray) (D : Dk) (a : Int), (writesZ D a l).2.s.length = D.s.length
  | [], _, _ => rfl
  | s :: r, D, a => by
    rw [writesZ]
    split
    · rw [writes_len r, write_len]
    · exact write_len D a s
theorem put_len (D : Dk) (a : Int) (l : List ByteArray) : (putZ D a l).2.2.s.length = D.s.length := by
  unfold putZ
  repeat' split
  · exact writes_len l D a
  · show (flushD _).s.length = _
    rw [flush_len, writes_len]
  · show (flushD _).s.length = _
    rw [flush_len, writes_len]
theorem packL_len0 (num : Int) (t : ByteArray) (h1 : 1 ≤ num ∧ num ≤ 4096) (h2 : t.size ≤ 8000) : ((packL num t).length : Int) = cntZ t.size := by
  have he : packE num t = 0 := by
    unfold packE
    rw [if_neg (by omega), if_neg (by omega)]
  have hc := cntZ_rng ((nums t).length : Int)
  unfold packL
  rw [if_pos he, List.length_map]
  unfold packB
  rw [List.length_map, List.length_range, nums_len] at *
  omega
theorem append_ok {j : JZ} {D : Dk} {n m : Nat} (h : JOk j n m) (hn : D.s.length = n) (t : ByteArray) : JOk (appendZ j D t).2.2.1 n (m + 1) ∧ (appendZ j D t).2.2.2.s.length = n := by
  unfold appendZ
  split
  · exact ⟨h.mono (by omega), hn⟩
  split
  · exact ⟨h.mono (by omega), hn⟩
  split
  · exact ⟨h.mono (by omega), hn⟩
  rename_i h1 h2 h3
  have hl := packL_len0 j.next t ⟨h.n0, by omega⟩ (by omega)
  have hs := cntZ_rng (t.size : Int)
  have h3' : ¬ ((D.s.length : Int) - j.stop < cntZ t.size) := h3
  rw [hn] at h3'
  have s0 := h.s0
  have s1 := h.s1
  have n0 := h.n0
  simp only
  split
  · exact ⟨⟨by show 0 ≤ j.stop + _; omega, by show j.stop + _ ≤ _; omega, by show 1 ≤ j.next + 1; omega, by show j.next + 1 ≤ 4097; omega, Nat.le_succ_of_le h.nl, Nat.le_succ_of_le h.tl, h.bl, h.nr⟩, by show (putZ D j.stop _).2.2.s.length = n; rw [put_len, hn]⟩
  split
  · exact ⟨⟨by show 0 ≤ j.stop + _; omega, by show j.stop + _ ≤ _; omega, by show 1 ≤ j.next + 1; omega, by show j.next + 1 ≤ 4097; omega, Nat.le_succ_of_le h.nl, Nat.le_succ_of_le h.tl, h.bl, h.nr⟩, by show (putZ D j.stop _).2.2.s.length = n; rw [put_len, hn]⟩
  · refine ⟨⟨by show 0 ≤ j.stop + _; omega, by show j.stop + _ ≤ _; omega, by show 1 ≤ j.next + 1; omega, by show j.next + 1 ≤ 4097; omega, ?_, ?_, h.bl, ?_⟩, by show (putZ D j.stop _).2.2.s.length = n; rw [put_len, hn]⟩
    · show (j.nums ++ [j.next]).length ≤ _
      rw [List.length_append]; exact Nat.add_le_add_right h.nl 1
    · show (j.texts ++ [t]).length ≤ _
      rw [List.length_append]; exact Nat.add_le_add_right h.tl 1
    · intro x hx
      have hx : x ∈ j.nums ++ [j.next] := hx
      rcases List.mem_append.1 hx with hx | hx
      · exact h.nr x hx
      · rw [List.mem_singleton.1 hx]; omega
end Go.Jn
/- Journal, plain: more of the law's examples. -/
namespace Go.Jn
open Go Go.Lab Go.Disk Go.Proofs.YtipbkdlekanlmaaDoor
theorem ex0_ok : openZ (newD 4) = jz0 := by kernel_rfl
theorem ex3_room : (ex3.2.2.1.closed, ex3.2.2.1.next, roomZ ex3.2.2.1 ex3.2.2.2) = (false, 4, 0) := by kernel_rfl
theorem append_full (j : JZ) (D : Dk) (t : ByteArray) (h1 : j.closed = false) (h2 : j.next = 4) (h3 : roomZ j D = 0) (ht : t.size = 1) : (appendZ j D t).2.2.1 = j := by
  unfold appendZ
  rw [if_neg (by rw [h1]; decide), if_neg (by rw [h2, ht]; decide), if_pos (by rw [h3, ht]; decide)]
theorem ex4_same : ex4.2.2.1 = ex3.2.2.1 := by
  have key : ∀ (a : Bool) (b c : Int), (a, b, c) = (false, 4, 0) → a = false ∧ b = 4 ∧ c = 0 := by
    rintro a b c h
    simpa using h
  have h := key _ _ _ ex3_room
  unfold ex4
  exact append_full _ _ _ h.1 h.2.1 h.2.2 (by decide)
theorem exI (D : Dk) (i bit : Int) : (rotD D i bit).s.length = D.s.length := by
  unfold rotD
  split
  · show (rotS D.s _ _).length = _
    unfold rotS
    rw [List.length_set]
  · rfl
theorem jz0_ok : JOk jz0 4 0 := by
  refine ⟨?_, ?_, ?_, ?_, ?_, ?_, ?_, ?_⟩
  all_goals unfold jz0
  all_goals simp
theorem ex1_b : JOk ex1.2.2.1 4 1 ∧ ex1.2.2.2.s.length = 4 := by
  unfold ex1
  exact append_ok (D := newD 4) jz0_ok (by simp [newD]) exA
theorem ex2_b : JOk ex2.2.2.1 4 2 ∧ ex2.2.2.2.s.length = 4 := by
  unfold ex2
  exact append_ok ex1_b.1 ex1_b.2 exX
theorem exD_b : exD.s.length = 4 := by unfold exD; rw [exI]; exact ex2_b.2
theorem exK_b : JOk exK 4 4 := by
  have := open_ok exD
  rw [exD_b] at this
  exact this
theorem ex3_b : JOk ex3.2.2.1 4 5 ∧ ex3.2.2.2.s.length = 4 := by
  unfold ex3
  exact append_ok exK_b exD_b _
theorem exD_off : exD.off = false := by kernel_rfl
theorem exD_rot : rotOk ex2.2.2.2 1 70 = true := by
  unfold rotOk Dk.isIn
  rw [ex2_b.2]
  rfl
end Go.Jn
