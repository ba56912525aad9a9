/- Journal: the walk of the law JournalSectors. -/
import Derived.Test.YtipbkdlekanlmaaDoorJs22
import Derived.Test.YtipbkdlekanlmaaDoorJs23
import Derived.Test.YtipbkdlekanlmaaDoorJs01
import Derived.Test.YtipbkdlekanlmaaDoorRows
import Derived.WalkKit
import Derived.ProofKit
import Derived.OpenShut
import Derived.ChangeSame
import Derived.JoinedAt
import Derived.Test.YtipbkdlekanlmaaDoorJs03
import Derived.Test.YtipbkdlekanlmaaDoorJs09
import Derived.LaidMore
import Derived.Stop.Joined
import Derived.Deep.Slices
namespace Go.Proofs.YtipbkdlekanlmaaDoor
open Go.RowKit Go.Lab Go.Disk Go.Jn
attribute [local go_sem] Oper.semAt_some
set_option maxRecDepth 100000
theorem range_map80 (f : Nat → Value) : (List.range 80).map f = [f 0, f 1, f 2, f 3, f 4, f 5, f 6, f 7, f 8, f 9, f 10, f 11, f 12, f 13, f 14, f 15, f 16, f 17, f 18, f 19, f 20, f 21, f 22, f 23, f 24, f 25, f 26, f 27, f 28, f 29, f 30, f 31, f 32, f 33, f 34, f 35, f 36, f 37, f 38, f 39, f 40, f 41, f 42, f 43, f 44, f 45, f 46, f 47, f 48, f 49, f 50, f 51, f 52, f 53, f 54, f 55, f 56, f 57, f 58, f 59, f 60, f 61, f 62, f 63, f 64, f 65, f 66, f 67, f 68, f 69, f 70, f 71, f 72, f 73, f 74, f 75, f 76, f 77, f 78, f 79] := rfl
theorem frame80 (t : Array Value) (ds : List Deferred) (h : t.size = 80) : ({ tmps := t, defers := ds } : Act) = { tmps := #[slot t 0, slot t 1, slot t 2, slot t 3, slot t 4, slot t 5, slot t 6, slot t 7, slot t 8, slot t 9, slot t 10, slot t 11, slot t 12, slot t 13, slot t 14, slot t 15, slot t 16, slot t 17, slot t 18, slot t 19, slot t 20, slot t 21, slot t 22, slot t 23, slot t 24, slot t 25, slot t 26, slot t 27, slot t 28, slot t 29, slot t 30, slot t 31, slot t 32, slot t 33, slot t 34, slot t 35, slot t 36, slot t 37, slot t 38, slot t 39, slot t 40, slot t 41, slot t 42, slot t 43, slot t 44, slot t 45, slot t 46, slot t 47, slot t 48, slot t 49, slot t 50, slot t 51, slot t 52, slot t 53, slot t 54, slot t 55, slot t 56, slot t 57, slot t 58, slot t 59, slot t 60, slot t 61, slot t 62, slot t 63, slot t 64, slot t 65, slot t 66, slot t 67, slot t 68, slot t 69, slot t 70, slot t 71, slot t 72, slot t 73, slot t 74, slot t 75, slot t 76, slot t 77, slot t 78, slot t 79], defers := ds } := by
  have e : t = ((List.range 80).map (slot t)).toArray := by
    apply Array.ext
    · simp [h]
    · intro i h1 h2
      simp [slot, Array.getD, h1]
  rw [range_map80] at e
  exact congrArg (fun x => ({ tmps := x, defers := ds } : Act)) e
theorem fields_partR : (Tryd.prog.fieldsOf 30).toList.map (fun f => (f.name == "_", f.type, f.offset)) = [(false, 3, 0), (false, 3, 1), (false, 3, 2), (false, 9, 3), (false, 4, 4)] := by kernel_rfl
theorem eql_partR (a b c : Int) (d : ByteArray) (e : Bool) (w : World) : (binOp .eql 30 (.agg #[.int .i64 a, .int .i64 b, .int .i64 c, .string d, .bool e]) (.agg #[.int .i64 a, .int .i64 b, .int .i64 c, .string d, .bool e])).run Tryd.prog w = .ok (.bool true) w := by
  rw [run_eql_struct, show (10000 : Nat) = (9998 + 1) + 1 from rfl, run_equalIn_struct w (9998 + 1) 30 _ _ (by kernel_rfl) (by kernel_rfl)]
  have hf := fields_partR
  generalize (Tryd.prog.fieldsOf 30).toList = L at hf ⊢
  obtain ⟨f0, f1, f2, f3, f4, rfl⟩ : ∃ f0 f1 f2 f3 f4, L = [f0, f1, f2, f3, f4] := by
    have hl := congrArg List.length hf
    simp only [List.length_map, List.length_cons, List.length_nil] at hl
    match L, hl with
    | [f0, f1, f2, f3, f4], _ => exact ⟨f0, f1, f2, f3, f4, rfl⟩
  simp only [List.map_cons, List.map_nil, List.cons.injEq, Prod.mk.injEq, beq_eq_false_iff_ne, ne_eq, and_true] at hf
  obtain ⟨⟨n0, t0, o0⟩, ⟨n1, t1, o1⟩, ⟨n2, t2, o2⟩, ⟨n3, t3, o3⟩, n4, t4, o4⟩ := hf
  simp only [Op.eqFields, n0, n1, n2, n3, n4, t0, t1, t2, t3, t4, o0, o1, o2, o3, o4, ne_eq, not_false_eq_true, if_true, Sem.run_bind]
  have p0 : ∀ (w : World), (part 3 #[.int .i64 a, .int .i64 b, .int .i64 c, .string d, .bool e] 0).run Tryd.prog w = .ok (.int .i64 a) w := fun _ => by kernel_rfl
  have p1 : ∀ (w : World), (part 3 #[.int .i64 a, .int .i64 b, .int .i64 c, .string d, .bool e] 1).run Tryd.prog w = .ok (.int .i64 b) w := fun _ => by kernel_rfl
  have p2 : ∀ (w : World), (part 3 #[.int .i64 a, .int .i64 b, .int .i64 c, .string d, .bool e] 2).run Tryd.prog w = .ok (.int .i64 c) w := fun _ => by kernel_rfl
  have p3 : ∀ (w : World), (part 9 #[.int .i64 a, .int .i64 b, .int .i64 c, .string d, .bool e] 3).run Tryd.prog w = .ok (.string d) w := fun _ => by kernel_rfl
  have p4 : ∀ (w : World), (part 4 #[.int .i64 a, .int .i64 b, .int .i64 c, .string d, .bool e] 4).run Tryd.prog w = .ok (.bool e) w := fun _ => by kernel_rfl
  simp [p0, p1, p2, p3, p4, run_equalIn_int (P := Tryd.prog) w 9998 3 .i64 .i64 _ _ Tryd.underlying3, run_equalIn_string (P := Tryd.prog) w 9998 9 _ _ Tryd.underlying9, run_equalIn_bool' (P := Tryd.prog) w 9998 4 _ _ Tryd.underlying4]
theorem guard_partR (op : BinOp) (x y : Operand) (xs ys : Array Value) (w : World) : (eqGuard op 30 x y (.agg xs) (.agg ys)).run Tryd.prog w = .ok () w :=
  run_eqGuard_agg w op 30 x y xs ys (by kernel_rfl)
theorem zero_partR (w : World) : (zeroValue 30).run Tryd.prog w = .ok (.agg (partC part0)) w := by kernel_rfl
theorem box5r {W : World} {b : Nat} {p : PartZ} {t : TypeId} {fz : Nat × Nat} (h : W.heap[b]? = some (.cells (partC p) t fz)) : W.cell? ⟨b, 0, none⟩ = some (.int .i64 p.num) ∧ W.cell? ⟨b, 1, none⟩ = some (.int .i64 p.part) ∧ W.cell? ⟨b, 2, none⟩ = some (.int .i64 p.left) ∧ W.cell? ⟨b, 3, none⟩ = some (.string p.pay) ∧ W.cell? ⟨b, 4, none⟩ = some (.bool p.ok) :=
  ⟨by simp [World.cell?, h, partC], by simp [World.cell?, h, partC], by simp [World.cell?, h, partC], by simp [World.cell?, h, partC], by simp [World.cell?, h, partC]⟩
set_option maxHeartbeats 8000000 in
theorem sectors_any (n : Int) (text sector : ByteArray) (w : World) (hn : -9223372036854775808 ≤ n ∧ n ≤ 9223372036854775807) (ht : text.size ≤ maxLen) (hk : w.rangeAt 2 0 (u32C ks0)) (hkr : w.rangeAt 0 0 (u32C ks0)) :
    Calls Tryd.prog 3 #[.int .i64 n, .string text, .string sector] w fun e w' => e = .returned (.bool true) ∧ Below w.heap.size w w' := by
  have HK := hidep (And.intro hk hkr)
  have HS := hidep (fun Y (hY : Below w.heap.size w Y) => sanity_any Y (HK.out.1.below hY))
  unfold maxLen at ht
  clear hk hkr
  by_cases h9 : 9000 < text.size
  · have g1 : (text.size : Int) > 9000 := by omega
    go_enter Tryd.func3, Tryd.ntmps3
    go_wp2_with (first
      | (go_at_call 5; refine (HS.out _ (Below.refl _ _)).mono ?_; rintro e w1 ⟨rfl, hb1⟩)
      | fail)
    go_ret
    exact ⟨rfl, hb1⟩
  · have g1 : ¬ (text.size : Int) > 9000 := by omega
    have HP := hidep (fun Y (hY : Below w.heap.size w Y) => pack_any n text Y hn.1 hn.2 (HK.out.1.below hY))
    have HPR := hidep (fun Y (hY : Below w.heap.size w Y) => packR_any n text Y hn.1 hn.2 (by omega) (HK.out.2.below hY))
    have HU := hidep (fun Y (hY : Below w.heap.size w Y) => unpack5_any sector Y (HK.out.1.below hY))
    have HUR := hidep (fun Y (hY : Below w.heap.size w Y) => unpackR_any sector Y (HK.out.2.below hY))
    obtain ⟨p, hp⟩ : ∃ p, p = unpZ sector := ⟨_, rfl⟩
    rw [← hp] at HU HUR
    obtain ⟨l, hl⟩ : ∃ l, l = packL n text := ⟨_, rfl⟩
    obtain ⟨er, her⟩ : ∃ er, er = packE n text := ⟨_, rfl⟩
    rw [← hl, ← her] at HP HPR
    have HC1 := hidep (fun Y => count_any (text.size : Int) Y (by omega) (by omega))
    have HC2 := hidep (fun Y => count_any n Y hn.1 hn.2)
    have HD1 := hidep (fun Y => countR_any (text.size : Int) Y (by omega) (by omega))
    have HD2 := hidep (fun Y => countR_any n Y hn.1 hn.2)
    obtain ⟨c1, hc1⟩ : ∃ c1, c1 = cntZ (text.size : Int) := ⟨_, rfl⟩
    obtain ⟨c2, hc2⟩ : ∃ c2, c2 = cntZ n := ⟨_, rfl⟩
    rw [← hc1] at HC1 HD1
    rw [← hc2] at HC2 HD2
    clear hp hl her hc1 hc2 h9 ht hn HK
    obtain ⟨pn, pp, pl, py, po⟩ := p
    have hk := Below.refl w.heap.size w
    have heq := fun W => eql_partR pn pp pl py po W
    have hgd := fun op x y xs ys W => guard_partR op x y xs ys W
    unfold unpV at HU
    simp only at HU
    go_enter Tryd.func3, Tryd.ntmps3
    go_upto_region 6 with (first
      | (go_at_call 6; refine (HP.out _ hk).mono ?_; rintro e w3 ⟨v3, rfl, ho3, hb3⟩; obtain ⟨a3, c3, rfl, _, _⟩ := (Rd.of_own ho3).form; have hk := hk.trans (hb3.mono hk.size))
      | (go_at_call 7; refine (HPR.out _ hk).mono ?_; rintro e w4 ⟨v4, rfl, ho4, hb4⟩; obtain ⟨a4, c4, rfl, _, _⟩ := (Rd.of_own ho4).form; have hk := hk.trans (hb4.mono hk.size))
      | (go_at_call 8; refine (HU.out _ hk).mono ?_; rintro e w5 ⟨rfl, hb5⟩; have hk := hk.trans (hb5.mono hk.size))
      | fail)
    have hkA := hk
    have hr3 := ho3
    have hbs := hk.size
    refine wp_region_lit ?_
    refine wpList_value rfl (v := .string sector) (w' := w5) (by kernel_rfl) ?_
    refine wpList_enter rfl 9 #[.string sector] (by kernel_rfl) (HUR.out _ hk) ?_
    intro w6 hb6
    refine wpList_alloc_row zero_partR _ rfl rfl ?_
    refine wpList_store_last (t := 30) (c := partC part0) (c' := partC ⟨pn, pp, pl, py, po⟩) w6 row_partR.2 rfl (part_one _) rfl _ _ rfl (by kernel_rfl) (by kernel_rfl) ?_
    refine wpList_nil ?_
    apply_assumption
    have hb56 := hb5.trans (hb6.mono hb5.size)
    have hst3 : StrsAt w6 (.slice a3 l.length c3) l := ((Rd.of_own ho3).mono (fun _ _ => trivial)).below ((hb4.trans (hb56.mono hb4.size)))
    have hst4 : StrsAt w6 (.slice a4 l.length c4) l := ((Rd.of_own ho4).mono (fun _ _ => trivial)).below hb56
    have hk6 := hk.trans (hb6.mono hk.size)
    refine wp_abs (fun X => X.heap[w6.heap.size]? = some (.cells (partC ⟨pn, pp, pl, py, po⟩) 30) ∧ StrsAt X (.slice a3 l.length c3) l ∧ StrsAt X (.slice a4 l.length c4) l ∧ Below w.heap.size w X) ⟨heap_alloc_new _ _, hst3.below ((Below.refl _ _).alloc (Nat.le_refl _) _), hst4.below ((Below.refl _ _).alloc (Nat.le_refl _) _), hk6.alloc hk6.size _⟩ ?_
    obtain ⟨E, hE⟩ : ∃ E, E = w6.heap.size := ⟨_, rfl⟩
    rw [← hE]
    rintro X ⟨hqE, hX3, hX4, hkX⟩
    refine wp_cutA 80 (fun tm ds => ds = [] ∧ slot tm 0 = .int .i64 n ∧ slot tm 1 = .string text ∧ slot tm 7 = .slice a3 l.length c3 ∧ slot tm 8 = .int .i64 er ∧ slot tm 9 = .slice a4 l.length c4 ∧ slot tm 10 = .int .i64 er ∧ slot tm 11 = .int .i64 pn ∧ slot tm 12 = .int .i64 pp ∧ slot tm 13 = .int .i64 pl ∧ slot tm 14 = .string py ∧ slot tm 15 = .bool po ∧ slot tm 16 = .pointer (some ⟨E, 0, none⟩)) (by kernel_rfl) (by exact ⟨by kernel_rfl, by kernel_rfl, by kernel_rfl, by kernel_rfl, by kernel_rfl, by kernel_rfl, by kernel_rfl, by kernel_rfl, by kernel_rfl, by kernel_rfl, by kernel_rfl, by kernel_rfl, by rw [hE]; kernel_rfl⟩) ?_
    rintro tA dA h80 ⟨rfl, e0, e1, e7, e8, e9, e10, e11, e12, e13, e14, e15, e16⟩
    rw [frame80 tA [] h80, e0, e1, e7, e8, e9, e10, e11, e12, e13, e14, e15, e16]
    clear h80 e0 e1 e7 e8 e9 e10 e11 e12 e13 e14 e15 e16 hE hk6 hst3 hst4 hb56 hb6 hb5 hb4 hb3 ho3 ho4 hr3 hkA hk HUR HU HP HPR hbs
    have HBX := hidep (fun Y (hY : Below X.heap.size X Y) => box5r (below_push hY hqE))
    have HTX := hidep (And.intro hX3 hX4)
    have hq1 : (er == er) = true := by simp
    have hq2 : (c1 == c1) = true := by simp
    have hq3 : (c2 == c2) = true := by simp
    have hk := hkX
    have hj := Below.refl X.heap.size X
    clear hX3 hX4 hqE
    go_wp2_with (first
      | (go_at_call 5; refine (HS.out _ hk).mono ?_; rintro e w8 ⟨rfl, hb8⟩; have hk := hk.trans (hb8.mono hk.size); have hj := hb8)
      | (go_at_call 10; refine (sameTexts_t _ _ l _ (HTX.out.1.below hj) (HTX.out.2.below hj)).mono ?_; rintro e w9 ⟨rfl, hb9⟩; have hk := hk.trans (hb9.mono hk.size); have hj := hj.trans (hb9.mono hj.size); obtain ⟨d0, d1, d2, d3, d4⟩ := HBX.out _ hj)
      | (go_at_call 11; first | ((with_reducible refine (HC1.out _).mono ?_); rintro e w10 ⟨rfl, hw10⟩; rw [hw10]; clear hw10) | ((with_reducible refine (HC2.out _).mono ?_); rintro e w10 ⟨rfl, hw10⟩; rw [hw10]; clear hw10))
      | (go_at_call 12; first | ((with_reducible refine (HD1.out _).mono ?_); rintro e w11 ⟨rfl, hw11⟩; rw [hw11]; clear hw11) | ((with_reducible refine (HD2.out _).mono ?_); rintro e w11 ⟨rfl, hw11⟩; rw [hw11]; clear hw11))
      | fail)
    go_ret
    exact ⟨rfl, hk⟩
end Go.Proofs.YtipbkdlekanlmaaDoor
/- The frame of a law's statement: arguments that are lists of ints and ints are opened, and closed behind a call that has turned nothing that was there. -/
namespace Go.Proofs.YtipbkdlekanlmaaDoor
open Go.ChangeShapes Go.WideShapes Go.ChangeAt Go.RowKit Go.Lab
theorem Tryd.own0 : ownKnob Tryd.prog.godebug = none := by kernel_rfl
theorem cellsInt : Tryd.prog.cellsOf 3 = 1 := by kernel_rfl
theorem i64_rng {x : Int} (h : (Lit.int .i64 x).wf = true) : -9223372036854775808 ≤ x ∧ x ≤ 9223372036854775807 := by
  simpa [Lit.wf, IntKind.min, IntKind.max, IntKind.signed, IntKind.bits] using h
section
variable {H : Type} {enc : TypeId × Value → H}
set_option maxRecDepth 100000 in
theorem open_list {W : World} {base : Nat} {v : Value} {d : DataW H} {p : List MemPlace} (hok : Value.okWide Tryd.prog W .any base 44 v) (h : DataW.Trod enc Tryd.prog W 0 (fun _ => true) true 44 v d p) :
    ∃ l : List Int, IntsAt W v l ∧ ∀ W', Below W.heap.size W W' → ∀ sp : Nat → Bool, (∀ q ∈ p, sp q.block = true) → DataW.Trod enc Tryd.prog W' 0 sp true 44 v d p := by
  obtain ⟨a0, len, cap, rfl⟩ := okWide_slice Tryd.underlying44 hok
  obtain ⟨fuel, hf⟩ := h
  rcases open_ints Tryd.underlying44 Tryd.underlying3 cellsInt hf with ⟨hcs, hx⟩ | ⟨a, len', cap', zs, hcs, _, hl, hm, hz, hx, hcell, hwz⟩
  · simp [Value.cells] at hcs
    obtain ⟨rfl, rfl, rfl⟩ := hcs
    simp only [Prod.mk.injEq] at hx
    obtain ⟨rfl, rfl⟩ := hx
    exact ⟨[], ⟨Rd.nil _ _ _, fun x hx => by simp at hx⟩, fun _ _ _ _ => shut_slice_nil Tryd.underlying44⟩
  · simp [Value.cells] at hcs
    obtain ⟨rfl, rfl, rfl⟩ := hcs
    simp only [Prod.mk.injEq] at hx
    obtain ⟨rfl, rfl⟩ := hx
    simp only [if_true] at hz
    have hblk : ∀ i, i < zs.length → a.block < W.heap.size := fun i hi => by
      have h1 := hcell i hi
      unfold World.cell? at h1
      rw [block_add] at h1
      split at h1
      · rename_i hh; exact lt_of_block hh
      · cases h1
    refine ⟨zs.take len, ⟨?_, fun x hx => i64_rng (hwz x (List.mem_of_mem_take hx))⟩, fun W' hb sp hsp => ?_⟩
    · have hlen : (zs.take len).length = len := by rw [List.length_take]; omega
      refine ⟨by rw [hlen]; simp [intsC]; omega, some a, cap, by rw [hlen], by omega, hm, fun e => (by cases e), fun ad e h0 => ?_⟩
      injection e with e
      subst e
      obtain ⟨b, off, spot⟩ := a
      have hspot : spot = none := by simpa [Addr.add] using World.cell?_spot (hcell 0 (by omega))
      subst hspot
      have hc0 := hcell 0 (by omega)
      have hcell2 : ∀ i, i < zs.length → W.cell? ⟨b, off + i, none⟩ = some (.int .i64 (zs.getD i 0)) := fun i hi => by
        have := hcell i hi
        rw [add_plain] at this
        exact this
      cases hh : W.heap[b]? with
      | none => have := hcell2 0 (by omega); simp [World.cell?, hh] at this
      | some o =>
        have hx0 := hcell2 0 (by omega)
        unfold World.cell? at hx0
        simp only [hh] at hx0
        split at hx0
        · rename_i cur t fz hoo
          injection hoo with hoo
          subst hoo
          refine ⟨rfl, cur, t, fz, trivial, rfl, fun j u hu => ?_⟩
          have hj : j < len := by
            have := (List.getElem?_eq_some_iff.1 hu).1
            simp [intsC] at this
            omega
          have h1 := hcell2 j (by omega)
          simp only [World.cell?, hh] at h1
          have h2 : u = .int .i64 (zs.getD j 0) := by
            simp [intsC, hj] at hu
            obtain ⟨x, hx, rfl⟩ := hu
            rw [List.getD, hx]; rfl
          rw [h2]
          simpa using h1
        · cases hx0
    · by_cases hz0 : zs.length = 0
      · have hc0 : cap = 0 := by omega
        have hl0 : len = 0 := by omega
        subst hc0; subst hl0
        have t0 := shut_ints (enc := enc) (w := W') (base := 0) (spare := sp) (held := true) (a := a) (len := 0) (cap := 0) (zs := zs) 0 Tryd.underlying44 Tryd.underlying3 cellsInt (Nat.zero_le _) (Nat.le_refl _) hm (by simp [hz0]) (fun i hi => by omega) hwz
        exact ⟨2, by simpa [Value.cells] using t0⟩
      · have hspb : sp a.block = true := hsp (.cell a.block a.off) (MemPlace.mem_row.2 ⟨0, by omega, by simp⟩)
        have t0 := shut_ints (enc := enc) (w := W') (base := 0) (spare := sp) (held := true) (a := a) (len := len) (cap := cap) (zs := zs) 0 Tryd.underlying44 Tryd.underlying3 cellsInt (Nat.zero_le _) hl hm (by simp [hspb, hz]) (fun i hi => (hb.cell (p := a.add i) (by rw [block_add]; exact hblk i hi)).trans (hcell i hi)) hwz
        exact ⟨2, by simpa [Value.cells] using t0⟩
set_option maxRecDepth 100000 in
/-- The end of a law's call: it returns true, what was there reads as it read. -/
theorem law_post {f : Func} {s : ChangeSpec} {W W' : World} {args : Array Value} {ds : List (DataW H)} {before : List MemPlace}
    (hW : DataW.Whole enc Tryd.prog f.params.toList s.vars false W args.toList ds [] before) (hsv : s.vars = []) (hrt : f.resultTypes = #[4]) (hb : Below W.heap.size W W')
    (hfn : s.fn H (ds ++ []) = { results := [.lit (.bool true)], args := ds }) (hps : ∀ sp : Nat → Bool, (∀ q ∈ before, sp q.block = true) → DataW.TrodAll enc Tryd.prog W' 0 sp true f.params.toList args.toList ds before) :
    s.post enc Tryd.prog f false true false false W args (.bool true) W' := by
  have hlt : ∀ q ∈ before, q.block < W.heap.size := fun q hq => hW.lt q hq
  have hr : ∀ (b : Nat) (sp : Nat → Bool) (hd : Bool), DataW.TrodAll enc Tryd.prog W' b sp hd f.resultTypes.toList ((Value.bool true).resultList f.resultTypes.size) (s.fn H (ds ++ [])).results [] := fun b sp hd => by
    rw [hfn, hrt]
    exact trodAll_mk1 (shut_bool Tryd.underlying4 _)
  have ha : ∀ sp : Nat → Bool, (∀ q ∈ before, sp q.block = true) → DataW.TrodAll enc Tryd.prog W' 0 sp true f.params.toList args.toList (s.fn H (ds ++ [])).args before := fun sp h => by rw [hfn]; exact hps sp h
  have hv : ∀ sp : Nat → Bool, DataW.TrodVars enc Tryd.prog W' sp s.vars (s.fn H (ds ++ [])).vars [] := fun sp => by rw [hfn, hsv]; rfl
  refine ⟨ds, [], before, [], before, [], hW, hr _ _ _, ha _ (fun q hq => by simpa using hlt q hq), hv _, World.keptBut_mono (fun q hq => ⟨hq, Or.inr (Or.inl hq)⟩) (hb.frame (· ∈ before)), fun _ => ?_⟩
  · obtain ⟨_, _, _, _, _, hz, hn⟩ := hW
    refine ⟨ok_one hrt rfl (okWide_bool_mk Tryd.underlying4 _), _, _, ([] ++ before) ++ [], ⟨[] ++ before, [], trodAll_append (ha _ (fun _ _ => rfl)) (hr _ _ _), hv _, rfl, ?_, ?_⟩, ?_⟩
    · intro b off hp
      have hin : MemPlace.cell b off ∈ before := by simpa using hp
      rw [hb.frozen (hlt _ hin)]
      exact hz b off hin
    · intro h
      cases h
    · intro q hq _
      simpa using hq
end
end Go.Proofs.YtipbkdlekanlmaaDoor
/- Journal: the listed tables of constants, opened; a start that meets the condition. -/
namespace Go.Proofs.YtipbkdlekanlmaaDoor
open Go.RowKit Go.Lab Go.Jn Go.ChangeShapes Go.WideShapes Go.ChangeAt
theorem consts_hash {H : Type} : (Rows.laid_dactyl_hash_constants : DataW H) = .agg (ks0.map fun x => .lit (.int .u32 (wz x))) := by kernel_rfl
theorem und_u32x64 : Tryd.prog.underlying 123 = some (.array 64 109) := by kernel_rfl
theorem row_of_trod {H : Type} {enc : TypeId × Value → H} {W : World} {base : Nat} {sp : Nat → Bool} {held : Bool} {fuel : Nat} {cs : List Value} {p : List MemPlace}
    (h : DataW.trod enc Tryd.prog W base sp held fuel 123 cs = some (.agg (ks0.map fun x => .lit (.int .u32 (wz x))), p)) : ∀ (j : Nat) (v : Value), (u32C ks0)[j]? = some v → cs[j]? = some v := by
  obtain ⟨xs, m, rfl, hx, hlen, hn, hel⟩ := DataW.trod_array und_u32x64 h
  have c1 : Tryd.prog.cellsOf 109 = 1 := by kernel_rfl
  have hk : ks0.length = 64 := by decide
  simp only [Prod.mk.injEq, DataW.agg.injEq] at hx
  intro j v hv
  have hj : j < 64 := by
    have := (List.getElem?_eq_some_iff.1 hv).1
    rw [u32C_len, hk] at this
    exact this
  have h0 := hel j hj
  rw [c1, Nat.mul_one, List.getElem?_eq_getElem (by rw [hn]; exact hj)] at h0
  obtain ⟨k, e1, e2, _⟩ := DataW.trod_int Tryd.underlying109 h0
  have hxj : (xs.map (·.1))[j]? = some (.lit (.int .u32 k)) := by
    rw [List.getElem?_map, List.getElem?_eq_getElem (by rw [hn]; exact hj), e2]
    rfl
  rw [← hx.1, List.getElem?_map] at hxj
  unfold u32C at hv
  rw [List.getElem?_map] at hv
  rw [List.getElem?_eq_getElem (by rw [hk]; exact hj)] at hxj hv
  simp only [Option.map_some, Option.some.injEq, DataW.lit.injEq, Lit.int.injEq] at hxj hv
  have h1 : (cs.drop j)[0]? = some (.int .u32 k) := by
    have : ((cs.drop j).take 1)[0]? = some (.int .u32 k) := by rw [e1]; rfl
    rw [List.getElem?_take] at this
    simpa using this
  rw [List.getElem?_drop, Nat.add_zero] at h1
  rw [h1, ← hv, hxj.2]
theorem range_of_var {W : World} {n : String} {g : Nat} {cs : Array Value} (hg : Tryd.prog.globalNamed n = some g) (hv : W.var? Tryd.prog n = some cs) (h : ∀ (j : Nat) (v : Value), (u32C ks0)[j]? = some v → cs.toList[j]? = some v) : W.rangeAt g 0 (u32C ks0) := by
  intro j v hjv
  rw [Nat.zero_add, World.var?_cell hg hv j]
  have := h j v hjv
  simpa using this
end Go.Proofs.YtipbkdlekanlmaaDoor
/- Journal: the arguments of a law, opened. -/
namespace Go.Proofs.YtipbkdlekanlmaaDoor
open Go.ChangeShapes Go.WideShapes Go.ChangeAt Go.RowKit Go.Lab
theorem laidAll : laidOutB Tryd.prog = true := by kernel_rfl
theorem stays {H : Type} {enc : TypeId × Value → H} {t : TypeId} {W W' : World} {v : Value} {d : DataW H} {ps : List MemPlace} (hl : laidOutB Tryd.prog = true) (hr : Tryd.prog.readableRec t = true) (hrow : t < Tryd.prog.types.size)
    (h : DataW.Trod enc Tryd.prog W 0 (fun _ => true) true t v d ps) (hb : Below W.heap.size W W') (hlt : ∀ x ∈ ps, x.block < W.heap.size) (sp : Nat → Bool) (hsp : ∀ x ∈ ps, sp x.block = true) :
    DataW.Trod enc Tryd.prog W' 0 sp true t v d ps :=
  WideElems.Trod_stays hl hr hrow h (fun x hx => hb.same (hlt x hx)) hsp
section
variable {H : Type} {enc : TypeId × Value → H} {W : World} {sp : Nat → Bool} {held : Bool}
set_option maxRecDepth 100000 in
theorem open_int_arg {W : World} {base : Nat} {v : Value} {d : DataW H} {p : List MemPlace} (hok : Value.okWide Tryd.prog W .any base 3 v) (h : DataW.Trod enc Tryd.prog W 0 (fun _ => true) held 3 v d p) : ∃ n : Int, v = .int .i64 n ∧ -9223372036854775808 ≤ n ∧ n ≤ 9223372036854775807 := by
  obtain ⟨n, rfl⟩ := okWide_int Tryd.underlying3 hok
  obtain ⟨fuel, hf⟩ := h
  obtain ⟨m, e, _, hw⟩ := DataW.trod_int Tryd.underlying3 hf
  simp [Value.cells] at e
  subst e
  exact ⟨n, rfl, i64_rng hw⟩
set_option maxRecDepth 100000 in
theorem open_str_arg {W : World} {base : Nat} {v : Value} {d : DataW H} {p : List MemPlace} (hok : Value.okWide Tryd.prog W .any base 9 v) (h : DataW.Trod enc Tryd.prog W 0 (fun _ => true) held 9 v d p) : ∃ s : ByteArray, v = .string s ∧ s.size ≤ maxLen := by
  obtain ⟨n, rfl⟩ := okWide_string Tryd.underlying9 hok
  obtain ⟨fuel, hf⟩ := h
  obtain ⟨m, e, _, hw⟩ := DataW.trod_string Tryd.underlying9 hf
  simp [Value.cells] at e
  subst e
  exact ⟨n, rfl, hw⟩
end
end Go.Proofs.YtipbkdlekanlmaaDoor
