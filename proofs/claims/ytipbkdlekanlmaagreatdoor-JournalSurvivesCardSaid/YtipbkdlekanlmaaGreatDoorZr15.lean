/- Journal: the reference's Pack. -/
import Derived.Test.YtipbkdlekanlmaaGreatDoorZr14
import Derived.Laws.IdiomStrings
import Derived.Deep.OwnRows
namespace Go.Proofs.YtipbkdlekanlmaaGreatDoor
open Go.RowKit Go.Lab Go.Jn Go.Disk
attribute [local go_sem] Oper.semAt_some
set_option maxRecDepth 100000
theorem range_map64 (f : Nat → Value) : (List.range 64).map f = [f 0, f 1, f 2, f 3, f 4, f 5, f 6, f 7, f 8, f 9, f 10, f 11, f 12, f 13, f 14, f 15, f 16, f 17, f 18, f 19, f 20, f 21, f 22, f 23, f 24, f 25, f 26, f 27, f 28, f 29, f 30, f 31, f 32, f 33, f 34, f 35, f 36, f 37, f 38, f 39, f 40, f 41, f 42, f 43, f 44, f 45, f 46, f 47, f 48, f 49, f 50, f 51, f 52, f 53, f 54, f 55, f 56, f 57, f 58, f 59, f 60, f 61, f 62, f 63] := rfl
theorem frame64 (t : Array Value) (ds : List Deferred) (h : t.size = 64) : ({ tmps := t, defers := ds } : Act) = { tmps := #[slot t 0, slot t 1, slot t 2, slot t 3, slot t 4, slot t 5, slot t 6, slot t 7, slot t 8, slot t 9, slot t 10, slot t 11, slot t 12, slot t 13, slot t 14, slot t 15, slot t 16, slot t 17, slot t 18, slot t 19, slot t 20, slot t 21, slot t 22, slot t 23, slot t 24, slot t 25, slot t 26, slot t 27, slot t 28, slot t 29, slot t 30, slot t 31, slot t 32, slot t 33, slot t 34, slot t 35, slot t 36, slot t 37, slot t 38, slot t 39, slot t 40, slot t 41, slot t 42, slot t 43, slot t 44, slot t 45, slot t 46, slot t 47, slot t 48, slot t 49, slot t 50, slot t 51, slot t 52, slot t 53, slot t 54, slot t 55, slot t 56, slot t 57, slot t 58, slot t 59, slot t 60, slot t 61, slot t 62, slot t 63], defers := ds } := by
  have e : t = ((List.range 64).map (slot t)).toArray := by
    apply Array.ext
    · simp [h]
    · intro i h1 h2
      simp [slot, Array.getD, h1]
  rw [range_map64] at e
  exact congrArg (fun x => ({ tmps := x, defers := ds } : Act)) e
/-- The 48 bytes of the text. -/
def bodyB (R : List Int) : List Int := R.take 48 ++ List.replicate (48 - R.length) 0
theorem bodyB_len (R : List Int) : (bodyB R).length = 48 := by simp [bodyB]; omega
theorem bodyB_in (R : ByteArray) (i : Nat) (h : i < 48) (hR : i < R.size) : getU (bodyB (nums R)) i = (R[i].toNat : Int) := by
  rw [str_at R i hR]
  unfold getU bodyB
  rw [List.getD_eq_getElem?_getD, List.getD_eq_getElem?_getD, List.getElem?_append_left (by rw [List.length_take, nums_len]; omega), List.getElem?_take_of_lt h]
theorem bodyB_out (R : ByteArray) (i : Nat) (hR : ¬ i < R.size) : getU (bodyB (nums R)) i = 0 := by
  unfold getU bodyB
  rw [List.getD_eq_getElem?_getD, List.getElem?_append_right (by rw [List.length_take, nums_len]; omega), List.getElem?_replicate]
  split <;> rfl
theorem take_snoc (L : List Int) (i : Nat) (h : i < L.length) : L.take (i + 1) = L.take i ++ [getU L i] := by
  rw [List.take_add_one]
  unfold getU
  rw [List.getD_eq_getElem?_getD, List.getElem?_eq_getElem h]
  rfl
theorem head_body (num k : Nat) (R : ByteArray) : (leN num 4 ++ (leN k 2 ++ leN R.size 2)) ++ bodyB (nums R) = headB num k (nums R) := by
  simp [headB, bodyB, nums_len]
theorem getU_body_rng (R : ByteArray) (i : Nat) : 0 ≤ getU (bodyB (nums R)) i ∧ getU (bodyB (nums R)) i < 256 := getU_rng (by
  intro x hx
  rcases List.mem_append.1 hx with h | h
  · exact nums_rng R x (List.mem_of_mem_take h)
  · rw [(List.mem_replicate.1 h).2]; decide) i
def PkR (num : Nat) (T : ByteArray) (n : Nat) (w : World) (vo ik : Value) (wr : World) : Prop := ∃ k : Nat, k ≤ n ∧ ik = .int .i64 (k : Nat) ∧ wr.ownsRow w.heap.size 9 1 vo k (strL ((List.range k).map (secS num T))) ∧ Below w.heap.size w wr
def PkJ (P8 : List Int) (R : ByteArray) (num : Nat) (T : ByteArray) (k : Nat) (w : World) (vo vb ii : Value) (wr : World) : Prop := ∃ i : Nat, i ≤ 48 ∧ ii = .int .i64 (i : Nat) ∧ wr.ownsRow w.heap.size 9 1 vo k (strL ((List.range k).map (secS num T))) ∧ wr.ownsRow w.heap.size 5 1 vb (8 + i) (byC (P8 ++ (bodyB (nums R)).take i)) ∧ Below w.heap.size w wr
/-- A row of another type is kept when a row grows. -/
theorem own_other {W W' : World} {B B' k k' n n' : Nat} {e e' : TypeId} {v v' : Value} {xs xs' : List Value} (h : W.ownsRow B e k v n xs) (h' : W.ownsRow B' e' k' v' n' xs') (hg : W.grownBy W' v'.ownBlock) (hne : e ≠ e') : W'.ownsRow B e k v n xs := by
  refine ⟨h.1, ?_⟩
  rcases h.2 with h2 | ⟨g, cap, cur, rfl, hb, hq, r⟩
  · exact .inl h2
  · exact .inr ⟨g, cap, cur, rfl, hb, grown_other h' hg hq hne, r⟩
set_option maxHeartbeats 8000000 in
theorem packR_any (num : Int) (T : ByteArray) (w : World) (h1 : -9223372036854775808 ≤ num) (h2 : num ≤ 9223372036854775807) (hT63 : T.size ≤ 9000) (hk : w.rangeAt 0 0 (u32C ks0)) :
    Calls Tryz.prog 60 #[.int .i64 num, .string T] w fun e w' => ∃ v, e = .returned (.tuple #[v, .int .i64 (packE num T)]) ∧ w'.ownsRow w.heap.size 9 1 v (packL num T).length (strL (packL num T)) ∧ Below w.heap.size w w' := by
  have hnil : w.ownsRow w.heap.size 9 1 (.slice none 0 0) 0 (strL []) := ⟨rfl, .inl ⟨rfl, rfl⟩⟩
  by_cases hb1 : num < 1
  · have he : packE num T = 1 := by unfold packE; rw [if_pos (.inl hb1)]
    have hl : packL num T = [] := by unfold packL; rw [if_neg (by rw [he]; decide)]
    rw [he, hl]
    clear he hl
    go_enter Tryz.func60, Tryz.ntmps60
    go_wp2
    refine bodyPost_ret (results_tmp2 rfl _ _ _) rfl ?_
    exact ⟨_, rfl, hnil, Below.refl _ _⟩
  by_cases hb2 : num > 4096
  · have he : packE num T = 1 := by unfold packE; rw [if_pos (.inr hb2)]
    have hl : packL num T = [] := by unfold packL; rw [if_neg (by rw [he]; decide)]
    rw [he, hl]
    clear he hl
    go_enter Tryz.func60, Tryz.ntmps60
    go_wp2
    refine bodyPost_ret (results_tmp2 rfl _ _ _) rfl ?_
    exact ⟨_, rfl, hnil, Below.refl _ _⟩
  by_cases hb3 : T.size > 8000
  · have he : packE num T = 4 := by unfold packE; rw [if_neg (by omega), if_pos hb3]
    have hl : packL num T = [] := by unfold packL; rw [if_neg (by rw [he]; decide)]
    rw [he, hl]
    clear he hl
    go_enter Tryz.func60, Tryz.ntmps60
    go_wp2
    refine bodyPost_ret (results_tmp2 rfl _ _ _) rfl ?_
    exact ⟨_, rfl, hnil, Below.refl _ _⟩
  have he : packE num T = 0 := by unfold packE; rw [if_neg (by omega), if_neg (by omega)]
  obtain ⟨m, hm⟩ : ∃ m : Nat, num = (m : Int) := ⟨num.toNat, by omega⟩
  have hl : packL num T = (List.range (cntZ T.size).toNat).map (secS m T) := by
    unfold packL packB
    rw [if_pos he, hm, nums_len, List.map_map]
    rfl
  rw [he, hl]
  subst hm
  have hT8 : T.size ≤ 8000 := by omega
  have hTi : ¬ (T.size : Int) > 8000 := by omega
  obtain ⟨n, hn⟩ : ∃ N, N = (cntZ T.size).toNat := ⟨_, rfl⟩
  have hcz : cntZ T.size = (n : Int) := by have := cntZ_rng T.size; omega
  have hnT : n ≤ 167 ∧ (∀ k : Nat, k < n → 48 * k ≤ T.size) := by
    have := cntZ_rng T.size
    refine ⟨by omega, fun k hk => ?_⟩
    unfold cntZ at hcz
    split at hcz <;> omega
  rw [← hn]
  have HCN := hidep (show ∀ W, Calls Tryz.prog 56 #[.int .i64 (T.size : Nat)] W fun e w' => e = .returned (.int .i64 (n : Nat)) ∧ w' = W from fun W => by
    have := countR_any (T.size : Nat) W (by omega) (by omega)
    rw [hcz] at this
    exact this)
  have HNT := hidep hnT
  have HKR := hidep hk
  have hm4 : m ≤ 4096 := by omega
  clear he hl h1 h2 hn hcz hnT hk hT63
  go_enter Tryz.func60, Tryz.ntmps60
  go_upto_region 7 with (fail)
  refine wp_loop (LoopI 64 (fun tm ds wr => (slot tm 0) = .int .i64 (m : Nat) ∧ (slot tm 1) = .string T ∧ ds = [] ∧ PkR m T n w (slot tm 6) (slot tm 7) wr)) (fun a' wr => n - natI (a'.tmps.getD 7 undef)) ?mainStart ?mainRound
  case' mainStart => refine LoopI.mk rfl ?_
  case' mainRound => (rintro ⟨t, ds⟩ wr ⟨hts, hrel⟩; dsimp only at hts hrel; rw [frame64 t ds hts])
  case mainStart => exact ⟨rfl, rfl, rfl, 0, Nat.zero_le _, rfl, hnil, Below.refl _ _⟩
  clear hnil
  obtain ⟨h0, h1, hds, k, hk, h7, hown, hbw⟩ := hrel
  subst hds
  obtain ⟨za, zc, hv, _, _⟩ := (Rd.of_own hown).form
  rw [hv] at hown
  rw [h0, h1, h7, hv]
  clear h0 h1 h7 hv hts
  by_cases hkn : k < n
  · have hki : (k : Int) < (n : Int) := by omega
    have hw48 : IntKind.i64.wrap (48 * (k : Int)) = ((48 * k : Nat) : Int) := by rw [IntWalk.i64_in _ (by have := HNT.out.1; omega)]; omega
    have hkT := HNT.out.2 k hkn
    go_upto_region 10 with (first
      | (go_at_call 56; refine (HCN.out _).mono ?_; rintro e w3 ⟨rfl, rfl⟩)
      | fail)
    obtain ⟨R, hR⟩ : ∃ R, R = T.extract (48 * k) T.size := ⟨_, rfl⟩
    rw [← hR]
    have hRs : R.size ≤ 8000 := by rw [hR, ByteArray.size_extract]; omega
    have hRn : nums R = (nums T).drop (48 * k) := by rw [hR, nums_extract, List.take_of_length_le (by rw [List.length_drop, nums_len]; exact Nat.le_refl _)]
    have HR := hidep hRn
    clear hR hRn hw48
    go_upto_region 11 with (first
      | (go_at_call 81; refine (small_any m 4 _ (by omega) (by omega)).mono ?_; rintro e w4 ⟨v4, rfl, hown4, hb4⟩)
      | fail)
    have hownB := own_base hown4 hbw.size
    have hownO := own_below hown hb4
    have hbw4 := hbw.trans (hb4.mono hbw.size)
    have hs4 := hbw4.size
    clear hown hown4 hb4 hbw
    go_upto_region 12 with (first
      | (go_at_call 81; refine (small_any k 2 _ (by have := HNT.out.1; omega) (by omega)).mono ?_; rintro e w5 ⟨v5, rfl, hown5, hb5⟩)
      | (at_builtin; refine wpList_append_rd _ rfl (.tmp 34) (.tmp 36) rfl slByteR w.heap.size _ _ _ rfl (own_below hownB hb5) _ _ _ _ rfl (Rd.of_own hown5) (byC_one _) (by unfold maxLen; omega) (by omega) (by have := hb5.size; omega) ?_; intro v6 w6 hown6 hgr6 hat6 hnl6; clear hat6 hnl6)
      | fail)
    have hownO6 := own_other (own_below hownO hb5) (own_below hownB hb5) hgr6 (by decide)
    have hbw6 : Below w.heap.size w w6 := (hbw4.trans (hb5.mono hs4)).grown hgr6 (by have := hb5.size; omega) (fun g hg => ((own_below hownB hb5).lt g hg).1)
    have hs6 := hbw6.size
    clear hownO hownB hbw4 hs4 hown5 hb5 hgr6
    go_upto_region 13 with (first
      | (go_at_call 81; refine (small_any R.size 2 _ (by omega) (by omega)).mono ?_; rintro e w7 ⟨v7, rfl, hown7, hb7⟩)
      | (at_builtin; refine wpList_append_rd _ rfl (.tmp 38) (.tmp 41) rfl slByteR w.heap.size _ _ _ rfl (own_below hown6 hb7) _ _ _ _ rfl (Rd.of_own hown7) (byC_one _) (by unfold maxLen; omega) (by omega) (by have := hb7.size; omega) ?_; intro v8 w8 hown8 hgr8 hat8 hnl8; clear hat8 hnl8)
      | fail)
    have hownO8 := own_other (own_below hownO6 hb7) (own_below hown6 hb7) hgr8 (by decide)
    have hbw8 : Below w.heap.size w w8 := (hbw6.trans (hb7.mono hs6)).grown hgr8 (by have := hb7.size; omega) (fun g hg => ((own_below hown6 hb7).lt g hg).1)
    clear hownO6 hown6 hbw6 hs6 hown7 hb7 hgr8
    have e8 : (byC (leN m 4) ++ byC (leN k 2)) ++ byC (leN R.size 2) = byC ((leN m 4 ++ (leN k 2 ++ leN R.size 2)) ++ (bodyB (nums R)).take 0) := by simp [byC]
    rw [e8] at hown8
    obtain ⟨P8, hP8⟩ : ∃ P8, P8 = leN m 4 ++ (leN k 2 ++ leN R.size 2) := ⟨_, rfl⟩
    rw [← hP8] at hown8
    have HP8 := hidep hP8
    clear hP8 e8
    go_upto_region 14 with (fail)
    refine wp_loop (LoopI 64 (fun tm ds wr => (slot tm 0) = .int .i64 (m : Nat) ∧ (slot tm 1) = .string T ∧ (slot tm 7) = .int .i64 (k : Nat) ∧ (slot tm 8) = .string R ∧ ds = [] ∧ PkJ P8 R m T k w (slot tm 6) (slot tm 9) (slot tm 10) wr)) (fun a' wr => 48 - natI (a'.tmps.getD 10 undef)) ?innerStart ?innerRound
    case' innerStart => refine LoopI.mk rfl ?_
    case' innerRound => (rintro ⟨t, ds⟩ wr ⟨hts, hrel⟩; dsimp only at hts hrel; rw [frame64 t ds hts])
    case innerStart => exact ⟨rfl, rfl, rfl, rfl, rfl, 0, Nat.zero_le _, rfl, hownO8, hown8, hbw8⟩
    clear hown8 hownO8 hbw8
    obtain ⟨h0, h1, h7, h8, hds, i, hi, h10, hownO, hown, hbw⟩ := hrel
    subst hds
    obtain ⟨oa, oc, hvo, _, _⟩ := (Rd.of_own hownO).form
    obtain ⟨ba, bc, hvb, _, _⟩ := (Rd.of_own hown).form
    rw [hvo] at hownO
    rw [hvb] at hown
    rw [h0, h1, h7, h8, h10, hvo, hvb]
    clear h0 h1 h7 h8 h10 hvo hvb hts
    have hsw := hbw.size
    by_cases hi48 : i < 48
    · have hii : (i : Int) < 48 := by omega
      have hownA := fun o => own_below hown (Below.alloc (Below.refl wr.heap.size wr) (Nat.le_refl _) o)
      have hownOA := fun o => own_below hownO (Below.alloc (Below.refl wr.heap.size wr) (Nat.le_refl _) o)
      have hts := take_snoc (bodyB (nums R)) i (by rw [bodyB_len]; exact hi48)
      obtain ⟨x, hx⟩ : ∃ x, x = getU (bodyB (nums R)) i := ⟨_, rfl⟩
      have hxr : 0 ≤ x ∧ x < 256 := by rw [hx]; exact getU_body_rng R i
      rw [← hx] at hts
      by_cases hiR : i < R.size
      · have hiRi : (i : Int) < (R.size : Int) := by omega
        have hat : (R[i].toNat : Int) = x := by rw [hx]; exact (bodyB_in R i hi48 hiR).symm
        have HX := hidep hts
        clear hx hts
        go_wp2_with (first
          | (at_builtin; refine wpList_append_rd _ rfl (.tmp 54) (.tmp 56) rfl slByteR w.heap.size _ _ _ rfl (hownA _) _ _ _ _ rfl (Rd.fresh wr _ 5 1 1 rfl (by decide)) (by intro u hu; simp at hu; subst hu; rfl) (by unfold maxLen; omega) (by omega) (by simp; omega) ?_; intro v3 w3 hown3 hgr3 hat3 hnl3; clear hat3 hnl3; have hO3 := own_other (hownOA _) (hownA _) hgr3 (by decide); have hb3 : Below w.heap.size w w3 := (hbw.alloc hsw _).grown hgr3 (by simp; omega) (fun g hg => ((hownA (.cells #[] 0)).lt g hg).1))
          | fail)
        refine ⟨LoopI.mk rfl ⟨rfl, rfl, rfl, rfl, rfl, i + 1, by omega, by show Value.int _ _ = _; go_num, hO3, by rw [HX.out, ← List.append_assoc, byC_snoc]; exact hown3, hb3⟩, ?_⟩
        show 48 - _ < 48 - _
        simp [natI]; omega
      · have hiRi : ¬ (i : Int) < (R.size : Int) := by omega
        have hx0 : x = 0 := by rw [hx]; exact bodyB_out R i hiR
        rw [hx0] at hts
        have HX := hidep hts
        clear hx hts hxr hx0
        go_wp2_with (first
          | (at_builtin; refine wpList_append_rd _ rfl (.tmp 54) (.tmp 56) rfl slByteR w.heap.size _ _ _ rfl (hownA _) _ _ _ _ rfl (Rd.fresh wr _ 5 1 1 rfl (by decide)) (by intro u hu; simp at hu; subst hu; rfl) (by unfold maxLen; omega) (by omega) (by simp; omega) ?_; intro v3 w3 hown3 hgr3 hat3 hnl3; clear hat3 hnl3; have hO3 := own_other (hownOA _) (hownA _) hgr3 (by decide); have hb3 : Below w.heap.size w w3 := (hbw.alloc hsw _).grown hgr3 (by simp; omega) (fun g hg => ((hownA (.cells #[] 0)).lt g hg).1))
          | fail)
        refine ⟨LoopI.mk rfl ⟨rfl, rfl, rfl, rfl, rfl, i + 1, by omega, by show Value.int _ _ = _; go_num, hO3, by rw [HX.out, ← List.append_assoc, byC_snoc]; exact hown3, hb3⟩, ?_⟩
        show 48 - _ < 48 - _
        simp [natI]; omega
    · have hii : ¬ (i : Int) < 48 := by omega
      have hi2 : i = 48 := by omega
      subst hi2
      rw [List.take_of_length_le (by rw [bodyB_len]; exact Nat.le_refl _), HP8.out, head_body] at hown
      obtain ⟨H, hH⟩ : ∃ H, H = headB m k (nums R) := ⟨_, rfl⟩
      have hH56 : H.length = 56 := by rw [hH]; exact headB_len _ _ _
      have hHr : ∀ x ∈ H, 0 ≤ x ∧ x < 256 := by rw [hH]; exact headB_rng _ _ _ (nums_rng R)
      have hsS : strOfNums (sealB H) = secS m T k := by rw [hH, HR.out]; rfl
      rw [← hH] at hown
      have hbt : BytR wr (.slice ba (8 + 48) bc) H := by
        have := Rd.of_own hown
        refine ⟨?_, hHr⟩
        rw [hH56]
        exact this.mono (fun _ _ => trivial)
      have HCK := hidep (checkedR_any _ H wr hbt hH56 (HKR.out.below hbw))
      rw [hsS] at HCK
      obtain ⟨sk, hsk⟩ : ∃ s, s = secS m T k := ⟨_, rfl⟩
      rw [← hsk] at HCK
      have HSK := hidep hsk
      clear hH hsS hown hbt hsk
      go_wp2_with (first
        | (go_at_call 80; refine HCK.out.mono ?_; rintro e w9 ⟨rfl, hb9⟩)
        | (at_builtin; refine wpList_append_rd _ rfl (.tmp 58) (.tmp 61) rfl slStrR w.heap.size _ _ _ rfl (own_below (own_below hownO hb9) (Below.alloc (Below.refl w9.heap.size w9) (Nat.le_refl _) _)) _ _ _ _ rfl (Rd.fresh w9 _ 9 1 1 rfl (by decide)) (by intro u hu; simp at hu; subst hu; rfl) (by unfold maxLen; have := HNT.out.1; omega) (by have := HNT.out.1; omega) (by have := hb9.size; simp; omega) ?_; intro v10 w10 hown10 hgr10 hat10 hnl10; clear hat10 hnl10)
        | fail)
      have hbE : Below w.heap.size w w10 := ((hbw.trans (hb9.mono hsw)).alloc (by have := hb9.size; omega) _).grown hgr10 (by have := hb9.size; simp; omega) (fun g hg => (hownO.lt g hg).1)
      have hn167 := HNT.out.1
      refine ⟨LoopI.mk rfl ⟨rfl, rfl, rfl, k + 1, by omega, by show Value.int _ _ = _; go_num, by
        rw [List.range_succ, List.map_append, List.map_singleton, ← HSK.out]
        unfold strL at hown10 ⊢
        rw [List.map_append]
        exact hown10, hbE⟩, ?_⟩
      show n - _ < n - _
      simp [natI]; omega
  · have hki : ¬ (k : Int) < (n : Int) := by omega
    have hkn2 : k = n := by omega
    rw [hkn2] at hown
    go_wp2_with (first
      | (go_at_call 56; refine (HCN.out _).mono ?_; rintro e w3 ⟨rfl, rfl⟩)
      | fail)
    refine bodyPost_ret (results_tmp2 rfl _ _ _) rfl ?_
    exact ⟨_, rfl, by rw [List.length_map, List.length_range]; exact hown, hbw⟩
end Go.Proofs.YtipbkdlekanlmaaGreatDoor
/- Journal: bytes.Equal; steps of a plain region said outright; parts as values. -/
namespace Go.Proofs.YtipbkdlekanlmaaGreatDoor
open Go.RowKit Go.Lab Go.Jn Go.Disk
attribute [local go_sem] Oper.semAt_some
set_option maxRecDepth 100000
theorem str_beq (A B : ByteArray) : (A.toList == B.toList) = decide (A = B) := by
  rw [Bool.eq_iff_iff, beq_iff_eq, decide_eq_true_iff, ByteArray.toList_eq, ByteArray.toList_eq]
  constructor
  · intro h
    exact ByteArray.ext (Array.toList_inj.1 h)
  · rintro rfl
    rfl
theorem eq_any (v u : Value) (A B : ByteArray) (w : World) (hv : (convert 81 9 v).run Tryz.prog w = .ok (.string A) w) (hu : (convert 81 9 u).run Tryz.prog w = .ok (.string B) w) :
    Calls Tryz.prog 77 #[v, u] w fun e w' => e = .returned (.bool (decide (A = B))) ∧ w' = w := by
  go_enter Tryz.func77, Tryz.ntmps77
  go_wp2
  go_ret
  exact ⟨ret_val (congrArg Value.bool (str_beq A B)), rfl⟩
theorem wpList_value {P : Program} {w w' : World} {ops : Array Oper} {rest : List Oper} {o : Oper} {a : Act} {Q : Exit → Act → World → Prop} {v : Value} (hgd : o.guard = none) (hr : (execOp a.eval o).run P w = .ok (.value v) w') (h : wpList P ops Q rest (a.put o.dst v) w') : wpList P ops Q (o :: rest) a w := by
  refine wpList_plain hgd fun K hK => ?_
  unfold Oper.wp
  rw [hr]
  exact hK _ _ h
theorem wpList_enter {P : Program} {w : World} {ops : Array Oper} {rest : List Oper} {o : Oper} {a : Act} {Q : Exit → Act → World → Prop} (hg : o.guard = none) (f : FuncId) (args : Array Value) (hrun : (execOp a.eval o).run P w = .ok (.enter f args) w) {V : Value} {R : World → Prop}
    (hc : Calls P f args w fun e w'' => e = .returned V ∧ R w'') (h : ∀ w'', R w'' → wpList P ops Q rest (a.put o.dst V) w'') : wpList P ops Q (o :: rest) a w := by
  refine wpList_plain hg fun K hK => ?_
  unfold Oper.wp
  rw [hrun, Oper.upon_enter]
  refine hc.mono fun e w'' hh => ?_
  obtain ⟨rfl, hR⟩ := hh
  exact hK _ _ (h _ hR)
/-- '[]byte(s)': the bytes lie in a block of their own. -/
theorem bytes_new (w : World) (s : ByteArray) : ∃ c w', (convert 9 81 (.string s)).run Tryz.prog w = .ok (.slice (some ⟨w.heap.size, 0, none⟩) s.size c) w' ∧ s.size ≤ c ∧ Below w.heap.size w w' ∧ w'.rangeAt w.heap.size 0 (byC (nums s)) ∧ w'.heap.size = w.heap.size + 1 := by
  refine ⟨_, _, run_bytes_of_string w 9 81 5 s (by kernel_rfl) (by kernel_rfl) (by kernel_rfl), grownCap_ge _ _ _ _, (Below.refl _ _).drew.alloc (Nat.le_refl _) _, fun j v hv => ?_, by simp⟩
  have hj : j < s.size := by
    rcases Nat.lt_or_ge j s.size with h | h
    · exact h
    · rw [List.getElem?_eq_none (by rw [byC_length, nums_len]; exact h)] at hv; cases hv
  rw [Nat.zero_add]
  have h1 := World.cell?_alloc_mark w.drew (bytesRow s (grownCap w s.size 0 5)) 5 ((bytesRow s (grownCap w s.size 0 5)).size, (bytesRow s (grownCap w s.size 0 5)).size + 1) j
  rw [bytesRow_at s _ j hj] at h1
  refine Eq.trans ?_ (h1.trans ?_)
  · rfl
  · rw [byC_get (nums s) j (by rw [nums_len]; exact hj)] at hv
    rw [← hv]
    congr 2
    exact (str_at s j hj)
theorem mk_bytes (n : Nat) (hn : n ≤ 1000) (W : World) : (Instr.makeSlice 81 (.int .i64 (n : Int)) (.int .i64 (n : Int))).run Tryz.prog W = .ok (.slice (some ⟨W.heap.size, 0, none⟩) n n) (W.alloc (.cells (byC (List.replicate n 0)).toArray 5)) := by
  rw [run_make_row' 81 5 (.int .u8 0) 1 (by kernel_rfl) (by kernel_rfl) rfl .i64 .i64 n (by omega) (by omega) W]
  have : madeCells #[Value.int .u8 0] n = (byC (List.replicate n 0)).toArray := by
    apply Array.toList_inj.1
    rw [toList_madeCells_one]
    simp [byC]
  rw [this]
/-- A part as a value. -/
def partC (p : PartZ) : Array Value := #[.int .i64 p.num, .int .i64 p.part, .int .i64 p.left, .string p.pay, .bool p.ok]
theorem part_one (p : PartZ) : (partC p).all (·.oneCell') = true := by simp [partC, Value.oneCell']
theorem box5p {W : World} {g : Nat} {p : PartZ} {t : TypeId} {fz : Nat × Nat} (h : W.heap[g]? = some (.cells (partC p) t fz)) : W.cell? ⟨g, 0, none⟩ = some (.int .i64 p.num) ∧ W.cell? ⟨g, 1, none⟩ = some (.int .i64 p.part) ∧ W.cell? ⟨g, 2, none⟩ = some (.int .i64 p.left) ∧ W.cell? ⟨g, 3, none⟩ = some (.string p.pay) ∧ W.cell? ⟨g, 4, none⟩ = some (.bool p.ok) :=
  ⟨by simp [World.cell?, h, partC], by simp [World.cell?, h, partC], by simp [World.cell?, h, partC], by simp [World.cell?, h, partC], by simp [World.cell?, h, partC]⟩
/-- A slice of a block of bytes as a string. -/
theorem conv_at {W : World} {b o n c : Nat} {L xs : List Int} {t : TypeId} {fz : Nat × Nat} (h : W.heap[b]? = some (.cells (byC L).toArray t fz)) (hn : xs.length = n) (ho : o + n ≤ (byC L).length) (hx : ∀ i, i < n → L.getD (o + i) 0 = xs.getD i 0) : (convert 81 9 (.slice (some ⟨b, o, none⟩) n c)).run Tryz.prog W = .ok (.string (strOfNums xs)) W :=
  run_convert_bytes_arg (P := Tryz.prog) W 81 5 (by kernel_rfl) (by kernel_rfl) b o n c xs hn (fun i hi => by
    rw [← hx i hi]
    rw [byC_length] at ho
    have e := byC_get L (o + i) (by omega)
    simp only [World.cell?, h]
    simpa using e) 9 (by kernel_rfl)
theorem sect_sl (b lo : Nat) (h : lo ≤ 56) (W : World) : (Instr.sliceAt 96 (.pointer (some ⟨b, 0, none⟩)) (some (.int .i64 (lo : Int))) (some (.int .i64 56)) none).run Tryz.prog W = .ok (.slice (some ⟨b, lo, none⟩) (56 - lo) (64 - lo)) W := by
  have ha : Tryz.prog.arrayLen 96 = 64 := by kernel_rfl
  have hs : ∀ W, (Go.sizeOf (Tryz.prog.elem 96)).run Tryz.prog W = .ok 1 W := fun W => by kernel_rfl
  rw [run_sliceAt_array_lh W 96 ⟨b, 0, none⟩ (by kernel_rfl) .i64 .i64 (lo : Int) 56 (by omega) (by omega) (by rw [ha]; omega), hs, ha]
  show Result.ok (slicedAt ⟨b, 0, none⟩ (lo : Int).toNat 56 64 1) W = _
  unfold slicedAt
  rw [Int.toNat_natCast, if_neg (by omega), Nat.mul_one]
  simp [Addr.add]
  intro h0
  omega
end Go.Proofs.YtipbkdlekanlmaaGreatDoor
