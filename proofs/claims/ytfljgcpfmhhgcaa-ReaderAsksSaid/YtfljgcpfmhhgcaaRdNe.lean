/- Contract: the reference's Needed. -/
import Derived.Test.YtfljgcpfmhhgcaaRdCk
import Derived.Test.YtfljgcpfmhhgcaaRdJ
namespace Go.Proofs.Ytfljgcpfmhhgcaa
open Go.RowKit Go.Lab
attribute [local go_sem] Oper.semAt_some
set_option maxRecDepth 100000
theorem range_map98 (f : Nat → Value) : (List.range 98).map f = [f 0, f 1, f 2, f 3, f 4, f 5, f 6, f 7, f 8, f 9, f 10, f 11, f 12, f 13, f 14, f 15, f 16, f 17, f 18, f 19, f 20, f 21, f 22, f 23, f 24, f 25, f 26, f 27, f 28, f 29, f 30, f 31, f 32, f 33, f 34, f 35, f 36, f 37, f 38, f 39, f 40, f 41, f 42, f 43, f 44, f 45, f 46, f 47, f 48, f 49, f 50, f 51, f 52, f 53, f 54, f 55, f 56, f 57, f 58, f 59, f 60, f 61, f 62, f 63, f 64, f 65, f 66, f 67, f 68, f 69, f 70, f 71, f 72, f 73, f 74, f 75, f 76, f 77, f 78, f 79, f 80, f 81, f 82, f 83, f 84, f 85, f 86, f 87, f 88, f 89, f 90, f 91, f 92, f 93, f 94, f 95, f 96, f 97] := rfl
theorem frame98 (t : Array Value) (ds : List Deferred) (h : t.size = 98) : ({ tmps := t, defers := ds } : Act) = { tmps := #[slot t 0, slot t 1, slot t 2, slot t 3, slot t 4, slot t 5, slot t 6, slot t 7, slot t 8, slot t 9, slot t 10, slot t 11, slot t 12, slot t 13, slot t 14, slot t 15, slot t 16, slot t 17, slot t 18, slot t 19, slot t 20, slot t 21, slot t 22, slot t 23, slot t 24, slot t 25, slot t 26, slot t 27, slot t 28, slot t 29, slot t 30, slot t 31, slot t 32, slot t 33, slot t 34, slot t 35, slot t 36, slot t 37, slot t 38, slot t 39, slot t 40, slot t 41, slot t 42, slot t 43, slot t 44, slot t 45, slot t 46, slot t 47, slot t 48, slot t 49, slot t 50, slot t 51, slot t 52, slot t 53, slot t 54, slot t 55, slot t 56, slot t 57, slot t 58, slot t 59, slot t 60, slot t 61, slot t 62, slot t 63, slot t 64, slot t 65, slot t 66, slot t 67, slot t 68, slot t 69, slot t 70, slot t 71, slot t 72, slot t 73, slot t 74, slot t 75, slot t 76, slot t 77, slot t 78, slot t 79, slot t 80, slot t 81, slot t 82, slot t 83, slot t 84, slot t 85, slot t 86, slot t 87, slot t 88, slot t 89, slot t 90, slot t 91, slot t 92, slot t 93, slot t 94, slot t 95, slot t 96, slot t 97], defers := ds } := by
  have e : t = ((List.range 98).map (slot t)).toArray := by
    apply Array.ext
    · simp [h]
    · intro i h1 h2
      simp [slot, Array.getD, h1]
  rw [range_map98] at e
  exact congrArg (fun x => ({ tmps := x, defers := ds } : Act)) e
/-- The numbers of a list, each once, in the order of their first appearance. -/
def dedZ (l : List Int) : List Int := l.foldl (fun acc x => if hasZ acc x then acc else acc ++ [x]) []
theorem dedZ_snoc (l : List Int) (x : Int) : dedZ (l ++ [x]) = if hasZ (dedZ l) x then dedZ l else dedZ l ++ [x] := by unfold dedZ; rw [List.foldl_append]; rfl
theorem snoc_ind {P : List Int → Prop} (h0 : P []) (h1 : ∀ l x, P l → P (l ++ [x])) (l : List Int) : P l := by
  have key : ∀ n (l : List Int), l.length = n → P l := by
    intro n
    induction n with
    | zero => intro l hl; rw [List.eq_nil_of_length_eq_zero hl]; exact h0
    | succ n ih =>
      intro l hl
      have hne : l ≠ [] := fun e => by rw [e] at hl; simp at hl
      rw [← List.dropLast_concat_getLast hne]
      exact h1 _ _ (ih _ (by rw [List.length_dropLast]; omega))
  exact key _ l rfl
theorem dedZ_len (l : List Int) : (dedZ l).length ≤ l.length := by
  refine snoc_ind (P := fun l => (dedZ l).length ≤ l.length) ?_ ?_ l
  · simp [dedZ]
  · intro l x ih
    rw [dedZ_snoc]
    split
    · simp; omega
    · simp; omega
theorem dedZ_mem (l : List Int) : ∀ x, x ∈ dedZ l ↔ x ∈ l := by
  refine snoc_ind (P := fun l => ∀ x, x ∈ dedZ l ↔ x ∈ l) ?_ ?_ l
  · simp [dedZ]
  · intro l x ih
    intro y
    rw [dedZ_snoc]
    split
    · rename_i h
      have : x ∈ dedZ l := by
        unfold hasZ at h
        obtain ⟨z, hz, he⟩ := List.any_eq_true.1 h
        have : z = x := by simpa using he
        rw [← this]
        exact hz
      rw [ih, List.mem_append, List.mem_singleton]
      constructor
      · exact .inl
      · rintro (h | rfl)
        · exact h
        · exact (ih _).1 this
    · rw [List.mem_append, List.mem_append, ih]
theorem dedZ_nodup (l : List Int) : (dedZ l).Nodup := by
  refine snoc_ind (P := fun l => (dedZ l).Nodup) ?_ ?_ l
  · simp [dedZ]
  · intro l x ih
    rw [dedZ_snoc]
    split
    · exact ih
    · rename_i h
      rw [List.nodup_append]
      refine ⟨ih, by simp, fun a ha b hb => ?_⟩
      rw [List.mem_singleton.1 hb]
      rintro rfl
      exact h (List.any_eq_true.2 ⟨_, ha, by simp⟩)
/-- Place k is the first one of the item with its fact, among the places below k. -/
def newTo (L : List Pl) (item : Int) (k j : Nat) : Bool := (List.range j).all fun i => decide ((lp L i).item ≠ item) || decide ((lp L i).fact ≠ (lp L k).fact)
theorem newTo_succ (L : List Pl) (item : Int) (k j : Nat) : newTo L item k (j + 1) = (newTo L item k j && (decide ((lp L j).item ≠ item) || decide ((lp L j).fact ≠ (lp L k).fact))) := by
  unfold newTo
  rw [List.range_succ, List.all_append]
  simp
/-- Place k is wanted. -/
def wantZ (L : List Pl) (item : Int) (facts : List Int) (k : Nat) : Bool := (decide ((lp L k).item = item) && hasZ facts (lp L k).fact) && newTo L item k k
def neededTo (L : List Pl) (item : Int) (facts : List Int) (n : Nat) : List Int := ((List.range n).filter (wantZ L item facts)).map fun (k : Nat) => (k : Int)
theorem neededTo_succ (L : List Pl) (item : Int) (facts : List Int) (n : Nat) : neededTo L item facts (n + 1) = neededTo L item facts n ++ (if wantZ L item facts n then [(n : Int)] else []) := by
  unfold neededTo
  rw [List.range_succ, List.filter_append, List.map_append]
  cases h : wantZ L item facts n <;> simp [h]
theorem neededTo_len (L : List Pl) (item : Int) (facts : List Int) (n : Nat) : (neededTo L item facts n).length ≤ n := by
  unfold neededTo
  rw [List.length_map]
  exact Nat.le_trans (List.length_filter_le _ _) (by simp)
theorem neededTo_rng {L : List Pl} {item : Int} {facts : List Int} {n : Nat} {x : Int} (h : x ∈ neededTo L item facts n) : 0 ≤ x ∧ x < n := by
  obtain ⟨k, hk, rfl⟩ := List.mem_map.1 h
  have := List.mem_range.1 (List.mem_filter.1 hk).1
  omega
def NeededR (L : List Pl) (item : Int) (facts o : List Int) (ez : Int) : Prop :=
  (8 < facts.length ∧ ez = 4 ∧ o = []) ∨ (facts.length ≤ 8 ∧ (neededTo L item facts L.length).length ≠ facts.length ∧ ez = 11 ∧ o = []) ∨ (facts.length ≤ 8 ∧ (neededTo L item facts L.length).length = facts.length ∧ ez = 0 ∧ o = neededTo L item facts L.length)
def NeA (w : World) (needs : List Int) (s8 s9 : Value) (wr : World) : Prop :=
  ∃ i : Nat, i ≤ needs.length ∧ s9 = .int .i64 (i : Nat) ∧ wr.ownsRow w.heap.size 3 1 s8 (dedZ (needs.take i)).length (intsC (dedZ (needs.take i))) ∧ Below w.heap.size w wr
def NeB (w1 : World) (B : Nat) (L : List Pl) (item : Int) (facts : List Int) (s10 s11 : Value) (wr : World) : Prop :=
  ∃ k : Nat, k ≤ L.length ∧ s11 = .int .i64 (k : Nat) ∧ wr.ownsRow B 3 1 s10 (neededTo L item facts k).length (intsC (neededTo L item facts k)) ∧ Below w1.heap.size w1 wr
def NeC (w2 : World) (L : List Pl) (item : Int) (b0 : Bool) (k : Nat) (s12 s13 : Value) (wr : World) : Prop :=
  ∃ (j : Nat) (bv : Bool), j ≤ k ∧ s13 = .int .i64 (j : Nat) ∧ s12 = .bool bv ∧ Hid (bv = (b0 && newTo L item k j)) ∧ Below w2.heap.size w2 wr
/-- What holds behind the first look at a place. -/
def NeM (w2 : World) (x0 x1 x8 x10 : Value) (k : Nat) (b0 : Bool) (a : Act) (W : World) : Prop :=
  a.tmps.size = 98 ∧ a.defers = [] ∧ slot a.tmps 0 = x0 ∧ slot a.tmps 1 = x1 ∧ slot a.tmps 8 = x8 ∧ slot a.tmps 10 = x10 ∧ slot a.tmps 11 = .int .i64 (k : Nat) ∧ slot a.tmps 12 = .bool b0 ∧ Below w2.heap.size w2 W
def NeM2 (w2 : World) (x0 x1 x8 x10 : Value) (k j : Nat) (b0 : Bool) (a : Act) (W : World) : Prop := NeM w2 x0 x1 x8 x10 k b0 a W ∧ slot a.tmps 13 = .int .i64 (j : Nat)
set_option maxHeartbeats 8000000 in
theorem needed30_any (L : List Pl) (item : Int) (needs : List Int) (pv nv : Value) (hN : needs.length ≤ 1048576) (hL : L.length ≤ 1048576) (w : World) (hp : PlacesAt w pv L) (hn : IntsAt w nv needs) :
    Calls Try.prog 58 #[pv, .int .i64 item, nv] w fun e w' => ∃ (oa : Option Addr) (oc : Nat) (o : List Int) (ez : Int), e = .returned (.tuple #[.slice oa o.length oc, .int .i64 ez]) ∧ IntsAt w' (.slice oa o.length oc) o ∧ NeededR L item (dedZ needs) o ez ∧ Below w.heap.size w w' := by
  obtain ⟨a, c, rfl, hca, hma⟩ := PlacesAt.form hp
  obtain ⟨b, d, rfl, hcb, hmb⟩ := hn.1.form
  unfold maxLen at hma hmb
  have HP := hidep hp
  have HN := hidep hn
  clear hp hn
  go_enter Try.func58, Try.ntmps58
  go_upto_region 3 with (fail)
  refine wp_loop (LoopI 98 (fun tm ds wr => (slot tm 0) = .slice a L.length c ∧ (slot tm 1) = .int .i64 item ∧ (slot tm 2) = .slice b needs.length d ∧ ds = [] ∧ NeA w needs (slot tm 8) (slot tm 9) wr)) (fun a' wr => needs.length - (intOf (a'.tmps.getD 9 undef)).toNat) ?factsStart ?factsRound
  case' factsStart => refine LoopI.mk rfl ?_
  case' factsRound => (rintro ⟨t, ds⟩ wr ⟨hts, hrel⟩; dsimp only at hts hrel; rw [frame98 t ds hts])
  case factsStart => exact ⟨rfl, rfl, rfl, rfl, 0, Nat.zero_le _, rfl, World.ownsRow_nil _ _ _ _, Below.refl _ _⟩
  obtain ⟨h0, h1, h2, hds, i, hi, h9, hown, hbw⟩ := hrel
  subst hds
  obtain ⟨fa, fc, hfv, _, _⟩ := (Rd.of_own hown).form
  rw [hfv] at hown
  rw [h0, h1, h2, h9, hfv]
  clear h0 h1 h2 h9 hfv hts
  have hfl := dedZ_len (needs.take i)
  have hflt : (needs.take i).length ≤ needs.length := by rw [List.length_take]; omega
  have HOWN := hidep hown
  have hdr : ∀ x ∈ dedZ (needs.take i), -9223372036854775808 ≤ x ∧ x ≤ 9223372036854775807 := fun x hx => HN.out.2 x (List.mem_of_mem_take ((dedZ_mem _ _).1 hx))
  have HFA := hidep (show IntsAt wr (.slice fa (dedZ (needs.take i)).length fc) (dedZ (needs.take i)) from ⟨(Rd.of_own hown).mono (fun _ _ => trivial), hdr⟩)
  clear hown hdr
  by_cases hlt : i < needs.length
  · have hi0 : (0 : Int) ≤ (i : Int) := by omega
    have hi1 : (i : Int) < (needs.length : Int) := by omega
    obtain ⟨nb, no, rfl, hnb, hnc⟩ := ints_get (HN.out.below hbw) hlt
    have HSN := hidep (dedZ_snoc (needs.take i) needs[i])
    rw [← List.take_succ_eq_append_getElem hlt] at HSN
    obtain ⟨x, hx⟩ : ∃ x, x = needs[i] := ⟨_, rfl⟩
    rw [← hx] at hnc HSN
    have HH := hidep (has30_any _ (dedZ (needs.take i)) x wr HFA.out)
    obtain ⟨hz, hhz⟩ : ∃ z, z = hasZ (dedZ (needs.take i)) x := ⟨_, rfl⟩
    rw [← hhz] at HH HSN
    obtain ⟨F, hF⟩ : ∃ F, F = dedZ (needs.take i) := ⟨_, rfl⟩
    rw [← hF] at HH HSN HOWN hfl ⊢
    clear hx hhz HFA hF
    cases hz with
    | true =>
      rw [if_pos rfl] at HSN
      go_wp2_with (first
        | (go_at_call 51; refine HH.out.mono ?_; rintro e w5 ⟨rfl, rfl⟩)
        | fail)
      refine ⟨LoopI.mk rfl ⟨rfl, rfl, rfl, rfl, i + 1, by omega, by show Value.int _ _ = _; go_num, by rw [HSN.out]; exact HOWN.out, hbw⟩, ?_⟩
      show needs.length - _ < needs.length - _
      simp [intOf]; omega
    | false =>
      rw [if_neg (by decide)] at HSN
      have hfr := Rd.fresh wr #[.int .i64 x] 3 1 1 rfl (by decide)
      have hbs := hbw.size
      go_wp2_with (first
        | (go_at_call 51; refine HH.out.mono ?_; rintro e w5 ⟨rfl, rfl⟩)
        | (at_builtin; refine wpList_append_rd _ rfl (.tmp 27) (.tmp 32) rfl slIntsR w.heap.size _ _ _ rfl (HOWN.out.alloc _) _ _ _ _ rfl hfr (by intro u hu; simp at hu; rw [hu]; rfl) (by unfold maxLen; omega) (by omega) (by simp; omega) ?_; intro v2 w2 hown2 hgr2 hat2 hnl2; clear hat2 hnl2)
        | fail)
      have hb2 : Below w.heap.size w w2 := (hbw.alloc hbs _).grown hgr2 (by simp; omega) (fun g hg => (HOWN.out.lt g hg).1)
      refine ⟨LoopI.mk rfl ⟨rfl, rfl, rfl, rfl, i + 1, by omega, by show Value.int _ _ = _; go_num, by rw [HSN.out, List.length_append, show intsC (F ++ [x]) = intsC F ++ [Value.int .i64 x] by simp [intsC]]; exact hown2, hb2⟩, ?_⟩
      show needs.length - _ < needs.length - _
      simp [intOf]; omega
  · have hie : i = needs.length := by omega
    rw [hie, List.take_length] at HOWN HFA hfl
    rw [hie, List.take_length]
    clear hie hflt hi hlt
    obtain ⟨F, hF⟩ : ∃ F, F = dedZ needs := ⟨_, rfl⟩
    rw [← hF] at HOWN HFA hfl ⊢
    have HFD := hidep hF
    clear hF
    by_cases h8 : 8 < F.length
    · have h8i : (8 : Int) < (F.length : Int) := by omega
      go_wp2
      go_ret2
      exact ⟨none, 0, [], 4, rfl, (IntsOf.nil (fun _ => True) _).at, .inl ⟨by rw [← HFD.out]; exact h8, rfl, rfl⟩, hbw⟩
    · have h8i : ¬ (8 : Int) < (F.length : Int) := by omega
      have H8 : Hid (F.length ≤ 8) := hidep (by omega)
      clear h8
      have HP1 := hidep (show ∀ X, Below wr.heap.size wr X → PlacesAt X (.slice a L.length c) L ∧ IntsAt X (.slice fa F.length fc) F from fun X hX => ⟨HP.out.below (hbw.trans (hX.mono hbw.size)), HFA.out.below hX⟩)
      have HBW := hidep hbw
      obtain ⟨w1, hw1⟩ : ∃ w1 : World, w1 = wr := ⟨_, rfl⟩
      rw [← hw1] at HP1 HBW ⊢
      clear hbw HOWN hw1 HFA
      obtain ⟨B, hB⟩ : ∃ B, B = w1.heap.size := ⟨_, rfl⟩
      have HBB := hidep hB
      go_upto_region 11 with (fail)
      refine wp_loop (LoopI 98 (fun tm ds wr => (slot tm 0) = .slice a L.length c ∧ (slot tm 1) = .int .i64 item ∧ (slot tm 8) = .slice fa F.length fc ∧ ds = [] ∧ NeB w1 B L item F (slot tm 10) (slot tm 11) wr)) (fun a' wr => L.length - (intOf (a'.tmps.getD 11 undef)).toNat) ?outerStart ?outerRound
      case' outerStart => refine LoopI.mk rfl ?_
      case' outerRound => (rintro ⟨t, ds⟩ wr ⟨hts, hrel⟩; dsimp only at hts hrel; rw [frame98 t ds hts])
      case outerStart => exact ⟨rfl, rfl, rfl, rfl, 0, Nat.zero_le _, rfl, World.ownsRow_nil _ _ _ _, Below.refl _ _⟩
      clear hB
      obtain ⟨h0, h1, h8, hds, k, hk, h11, hown, hbk⟩ := hrel
      subst hds
      obtain ⟨ra, rc, hrv, _, _⟩ := (Rd.of_own hown).form
      rw [hrv] at hown
      rw [h0, h1, h8, h11, hrv]
      clear h0 h1 h8 h11 hrv hts
      have hnl := neededTo_len L item F k
      have HOWN := hidep hown
      have HBK := hidep hbk
      clear hown
      by_cases hlt : k < L.length
      · have hk0 : (0 : Int) ≤ (k : Int) := by omega
        have hk1 : (k : Int) < (L.length : Int) := by omega
        have HSUC := hidep (neededTo_succ L item F k)
        obtain ⟨R, hR⟩ : ∃ R, R = neededTo L item F k := ⟨_, rfl⟩
        rw [← hR] at HOWN HSUC hnl ⊢
        clear hR
        have HCE := hidep (show ∀ X, Below wr.heap.size wr X → ∀ j, j < L.length → ∃ (pb po : Nat), a = some ⟨pb, po, none⟩ ∧ X.cell? ⟨pb, po + j * 6, none⟩ = some (.int .i64 (lp L j).item) ∧ X.cell? ⟨pb, po + j * 6 + 1, none⟩ = some (.int .i64 (lp L j).fact) from fun X hX j hj => by
          obtain ⟨pb, po, e, _, p0, p1, _⟩ := PlacesAt.at (HP1.out X (hbk.trans (hX.mono hbk.size))).1 hj
          have : lp L j = L[j] := by simp [lp, List.getD, hj]
          rw [this]
          exact ⟨pb, po, e, p0, p1⟩)
        obtain ⟨pb, po, rfl, p0, p1⟩ := HCE.out wr (Below.refl _ _) k hlt
        obtain ⟨ik, hik⟩ : ∃ x, x = (lp L k).item := ⟨_, rfl⟩
        obtain ⟨fk, hfk⟩ : ∃ x, x = (lp L k).fact := ⟨_, rfl⟩
        rw [← hik] at p0
        rw [← hfk] at p1
        have HHX := has30_any _ F fk wr (HP1.out wr hbk).2
        obtain ⟨hz, hhz⟩ : ∃ z, z = hasZ F fk := ⟨_, rfl⟩
        rw [← hhz] at HHX
        have HH := hidep HHX
        have HIK := hidep hik
        have HFK := hidep hfk
        have HHZ := hidep hhz
        clear hik hfk hhz HHX
        go_upto_region 13 with (fail)
        refine wp_join (NeM wr (.slice (some ⟨pb, po, none⟩) L.length c) (.int .i64 item) (.slice fa F.length fc) (.slice ra R.length rc) k (decide (ik = item) && hz)) ?first ?_
        case first =>
          intro K' hMK
          by_cases hii : ik = item
          · subst hii
            have hie : (ik == ik) = true := by simp
            go_wp2_with (first
              | (go_at_call 51; refine HH.out.mono ?_; rintro e w5 ⟨rfl, rfl⟩)
              | fail)
            exact ⟨rfl, rfl, rfl, rfl, rfl, rfl, rfl, by show Value.bool hz = Value.bool _; simp, Below.refl _ _⟩
          · have hie : (ik == item) = false := beq_false_of_ne hii
            have HD := hidep (decide_eq_false hii)
            clear hii
            go_wp2
            exact ⟨rfl, rfl, rfl, rfl, rfl, rfl, rfl, by show Value.bool false = Value.bool _; first | (rw [HD.out]; rfl) | simp, Below.refl _ _⟩
        rintro ⟨tm1, ds1⟩ W1 ⟨h98, hds, e0, e1, e8, e10, e11, e12, hb1⟩
        simp only at h98 hds e0 e1 e8 e10 e11 e12
        subst hds
        apply_assumption
        rw [frame98 tm1 [] h98, e0, e1, e8, e10, e11, e12]
        obtain ⟨b0, hb0⟩ : ∃ b0, b0 = (decide (ik = item) && hz) := ⟨_, rfl⟩
        rw [← hb0]
        have HB0 := hidep hb0
        clear h98 e0 e1 e8 e10 e11 e12 hb0 p0 p1 HH
        have HB1 := hidep hb1
        obtain ⟨w2, hw2⟩ : ∃ w2 : World, w2 = wr := ⟨_, rfl⟩
        rw [← hw2] at HOWN HBK HCE HB1
        clear hb1 hw2 hbk
        have HB1' := HB1.out
        go_upto_region 15 with (fail)
        refine wp_loop (LoopI 98 (fun tm ds wr => (slot tm 0) = .slice (some ⟨pb, po, none⟩) L.length c ∧ (slot tm 1) = .int .i64 item ∧ (slot tm 8) = .slice fa F.length fc ∧ (slot tm 10) = .slice ra R.length rc ∧ (slot tm 11) = .int .i64 (k : Nat) ∧ ds = [] ∧ NeC w2 L item b0 k (slot tm 12) (slot tm 13) wr)) (fun a' wr => k - (intOf (a'.tmps.getD 13 undef)).toNat) ?innerStart ?innerRound
        case' innerStart => refine LoopI.mk rfl ?_
        case' innerRound => (rintro ⟨t, ds⟩ wr ⟨hts, hrel⟩; dsimp only at hts hrel; rw [frame98 t ds hts])
        case innerStart => exact ⟨rfl, rfl, rfl, rfl, rfl, rfl, 0, b0, Nat.zero_le _, rfl, rfl, hidep (by simp [newTo]), HB1.out⟩
        clear HB1'
        obtain ⟨h0, h1, h8, h10, h11, hds, j, bv, hj, h13, h12, HBV, hbj⟩ := hrel
        subst hds
        rw [h0, h1, h8, h10, h11, h13, h12]
        clear h0 h1 h8 h10 h11 h13 h12 hts
        have hbkj := HBK.out.trans (hbj.mono HBK.out.size)
        by_cases hjk : j < k
        · have hj0 : (0 : Int) ≤ (j : Int) := by omega
          have hj1 : (j : Int) < (L.length : Int) := by omega
          have hj2 : (j : Int) < (k : Int) := by omega
          obtain ⟨pb2, po2, he, p0, p1⟩ := HCE.out wr hbj j (by omega)
          injection he with he
          injection he with hx1 hx2
          subst hx1 hx2
          obtain ⟨pb2, po2, he, p2, p3⟩ := HCE.out wr hbj k hlt
          injection he with he
          injection he with hx1 hx2
          subst hx1 hx2
          rw [← HFK.out] at p3
          have HNT := hidep (newTo_succ L item k j)
          rw [← HFK.out] at HNT
          obtain ⟨ij, hij⟩ : ∃ x, x = (lp L j).item := ⟨_, rfl⟩
          obtain ⟨fj, hfj⟩ : ∃ x, x = (lp L j).fact := ⟨_, rfl⟩
          rw [← hij] at p0 HNT
          rw [← hfj] at p1 HNT
          clear hij hfj p2 hbkj
          go_upto_block 5 with (fail)
          refine wp_join (NeM2 w2 (.slice (some ⟨pb, po, none⟩) L.length c) (.int .i64 item) (.slice fa F.length fc) (.slice ra R.length rc) k j (bv && (decide (ij ≠ item) || decide (fj ≠ fk)))) ?second ?_
          case second =>
            intro K2 hMK2
            go_upto_region 17 with (fail)
            have hend : ∀ n, Below w2.heap.size w2 (wr.drewN n) := fun n => hbj.trans ((below_drewN (Below.refl _ _) n).mono hbj.size)
            cases bv with
            | false =>
              go_quiet (fail)
              dsimp only [Exit.inBlock, Exit.then]
              exact hMK2 _ _ ⟨⟨rfl, rfl, by kernel_rfl, by kernel_rfl, by kernel_rfl, by kernel_rfl, by kernel_rfl, by rw [Bool.false_and]; kernel_rfl, hend _⟩, by kernel_rfl⟩
            | true =>
              by_cases hii : ij = item
              · subst hii
                have hie : (ij != ij) = false := by simp
                by_cases hff : fj = fk
                · subst hff
                  have hfe : (fj != fj) = false := by simp
                  go_quiet (fail)
                  dsimp only [Exit.inBlock, Exit.then]
                  exact hMK2 _ _ ⟨⟨rfl, rfl, by kernel_rfl, by kernel_rfl, by kernel_rfl, by kernel_rfl, by kernel_rfl, by simp; kernel_rfl, hend _⟩, by kernel_rfl⟩
                · have hfe : (fj != fk) = true := by simp [hff]
                  have HD := hidep (show decide (fj ≠ fk) = true from decide_eq_true hff)
                  clear hff
                  go_quiet (fail)
                  dsimp only [Exit.inBlock, Exit.then]
                  exact hMK2 _ _ ⟨⟨rfl, rfl, by kernel_rfl, by kernel_rfl, by kernel_rfl, by kernel_rfl, by kernel_rfl, by rw [HD.out, Bool.or_true]; kernel_rfl, hend _⟩, by kernel_rfl⟩
              · have hie : (ij != item) = true := by simp [hii]
                have HD := hidep (show decide (ij ≠ item) = true from decide_eq_true hii)
                clear hii
                go_quiet (fail)
                dsimp only [Exit.inBlock, Exit.then]
                exact hMK2 _ _ ⟨⟨rfl, rfl, by kernel_rfl, by kernel_rfl, by kernel_rfl, by kernel_rfl, by kernel_rfl, by rw [HD.out, Bool.true_or]; kernel_rfl, hend _⟩, by kernel_rfl⟩
          rintro ⟨tm2, ds2⟩ W2 ⟨⟨h98, hds, e0, e1, e8, e10, e11, e12, hb2⟩, e13⟩
          simp only at h98 hds e0 e1 e8 e10 e11 e12 e13
          subst hds
          apply_assumption
          rw [frame98 tm2 [] h98, e0, e1, e8, e10, e11, e12, e13]
          obtain ⟨b2, hb2e⟩ : ∃ b2, b2 = (bv && (decide (ij ≠ item) || decide (fj ≠ fk))) := ⟨_, rfl⟩
          rw [← hb2e]
          have HBV2 : Hid (b2 = (b0 && newTo L item k (j + 1))) := hidep (by rw [hb2e, HNT.out, HBV.out, Bool.and_assoc])
          clear h98 e0 e1 e8 e10 e11 e12 e13 hb2e p0 p1 p3
          go_wp2
          refine ⟨LoopI.mk rfl ⟨rfl, rfl, rfl, rfl, rfl, rfl, j + 1, b2, by omega, by show Value.int _ _ = _; go_num, rfl, HBV2, hb2⟩, ?_⟩
          show k - _ < k - _
          simp [intOf]; omega
        · have hjk2 : j = k := by omega
          have HW : Hid (bv = wantZ L item F k) := hidep (by
            rw [HBV.out, HB0.out, HHZ.out, HIK.out, HFK.out, hjk2]
            rfl)
          have HOWNJ := hidep (ownsRow_turned HOWN.out (Turned.of_below (T := fun _ => False) hbj) (fun _ _ h => h))
          rw [← HW.out] at HSUC
          cases bv with
          | false =>
            rw [if_neg (by decide), List.append_nil] at HSUC
            go_wp2
            refine ⟨LoopI.mk rfl ⟨rfl, rfl, rfl, rfl, k + 1, by omega, by show Value.int _ _ = _; go_num, by rw [HSUC.out]; exact HOWNJ.out, hbkj⟩, ?_⟩
            show L.length - _ < L.length - _
            simp [intOf]; omega
          | true =>
            rw [if_pos rfl] at HSUC
            have hfr := Rd.fresh wr #[.int .i64 (k : Nat)] 3 1 1 rfl (by decide)
            have hBs : B ≤ wr.heap.size := by rw [HBB.out]; exact hbkj.size
            go_wp2_with (first
              | (at_builtin; refine wpList_append_rd _ rfl (.tmp 88) (.tmp 90) rfl slIntsR B _ _ _ rfl (HOWNJ.out.alloc _) _ _ _ _ rfl hfr (by intro u hu; simp at hu; rw [hu]; rfl) (by unfold maxLen; omega) (by omega) (by simp; omega) ?_; intro v2 w9 hown2 hgr2 hat2 hnl2; clear hat2 hnl2)
              | fail)
            have hend : Below w1.heap.size w1 w9 := (hbkj.alloc hbkj.size _).grown hgr2 (by have := hbkj.size; simp; omega) (fun g hg => by rw [← HBB.out]; exact (HOWNJ.out.lt g hg).1)
            refine ⟨LoopI.mk rfl ⟨rfl, rfl, rfl, rfl, k + 1, by omega, by show Value.int _ _ = _; go_num, by rw [HSUC.out, List.length_append, show intsC (R ++ [(k : Int)]) = intsC R ++ [Value.int .i64 (k : Nat)] by simp [intsC]]; exact hown2, hend⟩, ?_⟩
            show L.length - _ < L.length - _
            simp [intOf]; omega
      · have hke : k = L.length := by omega
        subst hke
        have hend := HBW.out.trans (hbk.mono HBW.out.size)
        have HRG := hidep (fun x (hx : x ∈ neededTo L item F L.length) => neededTo_rng hx)
        have HIO := hidep (show IntsAt wr (.slice ra (neededTo L item F L.length).length rc) (neededTo L item F L.length) from ⟨(Rd.of_own HOWN.out).mono (fun _ _ => trivial), fun x hx => by have := HRG.out x hx; omega⟩)
        obtain ⟨R, hR⟩ : ∃ R, R = neededTo L item F L.length := ⟨_, rfl⟩
        rw [← hR] at HIO ⊢
        have HRE := hidep hR
        clear hR HOWN hnl HRG
        by_cases hlen : R.length = F.length
        · have hli : ((R.length : Int) != (F.length : Int)) = false := by rw [hlen]; simp
          have HL := hidep hlen
          clear hlen
          go_wp2
          go_ret2
          exact ⟨ra, rc, R, 0, rfl, HIO.out, .inr (.inr ⟨by rw [← HFD.out]; exact H8.out, by rw [← HFD.out, ← HRE.out]; exact HL.out, rfl, by rw [← HFD.out]; exact HRE.out⟩), hend⟩
        · have hli : ((R.length : Int) != (F.length : Int)) = true := by simp; omega
          have HL := hidep hlen
          clear hlen
          go_wp2
          go_ret2
          exact ⟨none, 0, [], 11, rfl, (IntsOf.nil (fun _ => True) _).at, .inr (.inl ⟨by rw [← HFD.out]; exact H8.out, by rw [← HFD.out, ← HRE.out]; exact HL.out, rfl, rfl⟩), hend⟩
end Go.Proofs.Ytfljgcpfmhhgcaa
