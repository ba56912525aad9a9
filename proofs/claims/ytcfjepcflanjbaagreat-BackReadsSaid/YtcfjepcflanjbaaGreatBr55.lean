/- The frame of a law's statement: arguments that are lists of ints and ints are opened, and closed behind a call that has turned nothing that was there. -/
import Derived.Test.YtcfjepcflanjbaaGreatBr01
import Derived.Test.YtcfjepcflanjbaaGreatRows
import Derived.WalkKit
import Derived.ProofKit
import Derived.OpenShut
import Derived.ChangeSame
import Derived.JoinedAt
import Derived.Test.YtcfjepcflanjbaaGreatBr03
import Derived.Deep.Slices
namespace Go.Proofs.YtcfjepcflanjbaaGreat
open Go.ChangeShapes Go.WideShapes Go.ChangeAt Go.RowKit Go.Lab
theorem Tryz.own0 : ownKnob Tryz.prog.godebug = none := by kernel_rfl
theorem zqcd : Tryz.prog.cellsOf 3 = 1 := by kernel_rfl
theorem zqa1 {x : Int} (h : (Lit.int .i64 x).wf = true) : -9223372036854775808 <= x /\ x <= 9223372036854775807 := by
  simpa [Lit.wf, IntKind.min, IntKind.max, IntKind.signed, IntKind.bits] using h
section
variable {H : Type} {enc : TypeId × Value -> H}
set_option maxRecDepth 100000 in
theorem open_list {W : World} {base : Nat} {v : Value} {d : DataW H} {p : List MemPlace} (hok : Value.okWide Tryz.prog W .any base 22 v) (h : DataW.Trod enc Tryz.prog W 0 (fun _ => true) true 22 v d p) :
    ∃ l : List Int, IntsAt W v l /\ ∀ W', Below W.heap.size W W' -> ∀ sp : Nat -> Bool, (∀ q ∈ p, sp q.block = true) -> DataW.Trod enc Tryz.prog W' 0 sp true 22 v d p := by
  obtain ⟨a0, len, cap, rfl⟩ := okWide_slice Tryz.underlying22 hok
  obtain ⟨fuel, hf⟩ := h
  rcases open_ints Tryz.underlying22 Tryz.underlying3 zqcd hf with ⟨hcs, hx⟩ | ⟨a, len', cap', zs, hcs, _, hl, hm, hz, hx, hcell, hwz⟩
  · simp [Value.cells] at hcs
    obtain ⟨rfl, rfl, rfl⟩ := hcs
    simp only [Prod.mk.injEq] at hx
    obtain ⟨rfl, rfl⟩ := hx
    exact ⟨[], ⟨Rd.nil _ _ _, fun x hx => by simp at hx⟩, fun _ _ _ _ => shut_slice_nil Tryz.underlying22⟩
  · simp [Value.cells] at hcs
    obtain ⟨rfl, rfl, rfl⟩ := hcs
    simp only [Prod.mk.injEq] at hx
    obtain ⟨rfl, rfl⟩ := hx
    simp only [if_true] at hz
    have hblk : ∀ i, i < zs.length -> a.block < W.heap.size := fun i hi => by
      have h1 := hcell i hi
      unfold World.cell? at h1
      rw [block_add] at h1
      split at h1
      · rename_i hh; exact lt_of_block hh
      · cases h1
    refine ⟨zs.take len, ⟨?_, fun x hx => zqa1 (hwz x (List.mem_of_mem_take hx))⟩, fun W' hb sp hsp => ?_⟩
    · have hlen : (zs.take len).length = len := by rw [List.length_take]; omega
      refine ⟨by rw [hlen]; simp [intsC]; omega, some a, cap, by rw [hlen], by omega, hm, fun e => (by cases e), fun ad e h0 => ?_⟩
      injection e with e
      subst e
      obtain ⟨b, off, spot⟩ := a
      have hspot : spot = none := by simpa [Addr.add] using World.cell?_spot (hcell 0 (by omega))
      subst hspot
      have hc0 := hcell 0 (by omega)
      have hcell2 : ∀ i, i < zs.length -> W.cell? ⟨b, off + i, none⟩ = some (.int .i64 (zs.getD i 0)) := fun i hi => by
        have := hcell i hi
        rw [add_plain] at this
        exact this
      cases hh : W.heap[b]? with
      | none => have := hcell2 0 (by omega); simp [World.cell?, hh] at this
      | some o =>
        have hx0 := hcell2 0 (by omega)
        unfold World.cell? at hx0
        simp only [hh] at hx0
        split at hx0
        · rename_i cur t fz hoo
          injection hoo with hoo
          subst hoo
          refine ⟨rfl, cur, t, fz, trivial, rfl, fun j u hu => ?_⟩
          have hj : j < len := by
            have := (List.getElem?_eq_some_iff.1 hu).1
            simp [intsC] at this
            omega
          have h1 := hcell2 j (by omega)
          simp only [World.cell?, hh] at h1
          have h2 : u = .int .i64 (zs.getD j 0) := by
            simp [intsC, hj] at hu
            obtain ⟨x, hx, rfl⟩ := hu
            rw [List.getD, hx]; rfl
          rw [h2]
          simpa using h1
        · cases hx0
    · by_cases hz0 : zs.length = 0
      · have hc0 : cap = 0 := by omega
        have hl0 : len = 0 := by omega
        subst hc0; subst hl0
        have t0 := shut_ints (enc := enc) (w := W') (base := 0) (spare := sp) (held := true) (a := a) (len := 0) (cap := 0) (zs := zs) 0 Tryz.underlying22 Tryz.underlying3 zqcd (Nat.zero_le _) (Nat.le_refl _) hm (by simp [hz0]) (fun i hi => by omega) hwz
        exact ⟨2, by simpa [Value.cells] using t0⟩
      · have hspb : sp a.block = true := hsp (.cell a.block a.off) (MemPlace.mem_row.2 ⟨0, by omega, by simp⟩)
        have t0 := shut_ints (enc := enc) (w := W') (base := 0) (spare := sp) (held := true) (a := a) (len := len) (cap := cap) (zs := zs) 0 Tryz.underlying22 Tryz.underlying3 zqcd (Nat.zero_le _) hl hm (by simp [hspb, hz]) (fun i hi => (hb.cell (p := a.add i) (by rw [block_add]; exact hblk i hi)).trans (hcell i hi)) hwz
        exact ⟨2, by simpa [Value.cells] using t0⟩
set_option maxRecDepth 100000 in
theorem law_post {f : Func} {s : ChangeSpec} {W W' : World} {args : Array Value} {ds : List (DataW H)} {before : List MemPlace}
    (hW : DataW.Whole enc Tryz.prog f.params.toList s.vars false W args.toList ds [] before) (hsv : s.vars = []) (hrt : f.resultTypes = #[4]) (hb : Below W.heap.size W W')
    (hfn : s.fn H (ds ++ []) = { results := [.lit (.bool true)], args := ds }) (hps : ∀ sp : Nat -> Bool, (∀ q ∈ before, sp q.block = true) -> DataW.TrodAll enc Tryz.prog W' 0 sp true f.params.toList args.toList ds before) :
    s.post enc Tryz.prog f false true false false W args (.bool true) W' := by
  have hlt : ∀ q ∈ before, q.block < W.heap.size := fun q hq => hW.lt q hq
  have hr : ∀ (b : Nat) (sp : Nat -> Bool) (hd : Bool), DataW.TrodAll enc Tryz.prog W' b sp hd f.resultTypes.toList ((Value.bool true).resultList f.resultTypes.size) (s.fn H (ds ++ [])).results [] := fun b sp hd => by
    rw [hfn, hrt]
    exact trodAll_mk1 (shut_bool Tryz.underlying4 _)
  have ha : ∀ sp : Nat -> Bool, (∀ q ∈ before, sp q.block = true) -> DataW.TrodAll enc Tryz.prog W' 0 sp true f.params.toList args.toList (s.fn H (ds ++ [])).args before := fun sp h => by rw [hfn]; exact hps sp h
  have hv : ∀ sp : Nat -> Bool, DataW.TrodVars enc Tryz.prog W' sp s.vars (s.fn H (ds ++ [])).vars [] := fun sp => by rw [hfn, hsv]; rfl
  refine ⟨ds, [], before, [], before, [], hW, hr _ _ _, ha _ (fun q hq => by simpa using hlt q hq), hv _, World.keptBut_mono (fun q hq => ⟨hq, Or.inr (Or.inl hq)⟩) (hb.frame (· ∈ before)), fun _ => ?_⟩
  · obtain ⟨_, _, _, _, _, hz, hn⟩ := hW
    refine ⟨ok_one hrt rfl (okWide_bool_mk Tryz.underlying4 _), _, _, ([] ++ before) ++ [], ⟨[] ++ before, [], trodAll_append (ha _ (fun _ _ => rfl)) (hr _ _ _), hv _, rfl, ?_, ?_⟩, ?_⟩
    · intro b off hp
      have hin : MemPlace.cell b off ∈ before := by simpa using hp
      rw [hb.frozen (hlt _ hin)]
      exact hz b off hin
    · intro h
      cases h
    · intro q hq _
      simpa using hq
end
end Go.Proofs.YtcfjepcflanjbaaGreat
/- The frame of a law's statement: an argument that is a list of bytes is opened, and stays. -/
namespace Go.Proofs.YtcfjepcflanjbaaGreat
open Go.ChangeShapes Go.WideShapes Go.ChangeAt Go.RowKit Go.Lab
theorem u8_rngY {x : Int} (h : (Lit.int .u8 x).wf = true) : 0 <= x /\ x < 256 := by
  have : 0 <= x /\ x <= 255 := by simpa [Lit.wf, IntKind.min, IntKind.max, IntKind.signed, IntKind.bits] using h
  omega
theorem laidAll : laidOutB Tryz.prog = true := by kernel_rfl
theorem stays {H : Type} {enc : TypeId × Value -> H} {t : TypeId} {W W' : World} {v : Value} {d : DataW H} {ps : List MemPlace} (hl : laidOutB Tryz.prog = true) (hr : Tryz.prog.readableRec t = true) (hrow : t < Tryz.prog.types.size)
    (h : DataW.Trod enc Tryz.prog W 0 (fun _ => true) true t v d ps) (hb : Below W.heap.size W W') (hlt : ∀ x ∈ ps, x.block < W.heap.size) (sp : Nat -> Bool) (hsp : ∀ x ∈ ps, sp x.block = true) :
    DataW.Trod enc Tryz.prog W' 0 sp true t v d ps :=
  WideElems.Trod_stays hl hr hrow h (fun x hx => hb.same (hlt x hx)) hsp
section
variable {H : Type} {enc : TypeId × Value -> H} {W : World} {sp : Nat -> Bool} {held : Bool}
theorem rd_of_cells {v : Value} {k : Nat} {a : Addr} {len cap : Nat} {cs : List Value} (hv : v = .slice (some a) len cap) (hl : len <= cap) (hm : cap <= maxLen) (hlen : cs.length = len * k)
    (hblk : 0 < cap -> ∃ u, W.cell? a = some u) (hcell : ∀ j u, cs[j]? = some u -> W.cell? (a.add j) = some u) : Rd W (fun _ => True) k v len cs := by
  refine ⟨hlen, some a, cap, hv, hl, hm, fun e => (by cases e), fun ad e h0 => ?_⟩
  injection e with e
  subst e
  obtain ⟨b, off, spot⟩ := a
  obtain ⟨u0, hc0⟩ := hblk h0
  have hspot : spot = none := by simpa using World.cell?_spot hc0
  subst hspot
  cases hh : W.heap[b]? with
  | none => simp [World.cell?, hh] at hc0
  | some o =>
    have hx0 := hc0
    unfold World.cell? at hx0
    simp only [hh] at hx0
    split at hx0
    · rename_i cur t fz hoo
      injection hoo with hoo
      subst hoo
      refine ⟨rfl, cur, t, fz, trivial, rfl, fun j u hu => ?_⟩
      have h1 := hcell j u hu
      rw [add_plain] at h1
      simpa [World.cell?, hh] using h1
    · cases hx0
set_option maxRecDepth 100000 in
theorem bytes_of_trod {fuel : Nat} {v : Value} {x : DataW H × List MemPlace} (h : DataW.trod enc Tryz.prog W 0 (fun _ => true) held fuel 23 [v] = some x) : ∃ l : List Int, BysAt W v l := by
  rcases Go.Deep.open_slice Tryz.underlying23 h with ⟨hcs, hx⟩ | ⟨a, len, cap, m, n, D, Pl, hcs, _, hl, hm, hmm, _, hx⟩
  · simp at hcs
    subst hcs
    exact ⟨[], Rd.nil _ _ _, fun x hx => by cases hx⟩
  · simp at hcs
    simp only [if_true] at hmm
    subst hmm
    have ce : Tryz.prog.cellsOf 5 = 1 := by kernel_rfl
    have each : ∀ i, i < m -> ∃ q : Int, W.cell? (a.add i) = some (.int .u8 q) /\ 0 <= q /\ q < 256 := by
      intro i hi
      obtain ⟨cs', h1, h2⟩ := hx i hi
      rw [ce] at h1
      obtain ⟨_, hlen, hcell⟩ := World.cells?_some h1
      obtain ⟨n0, e0, _, w0⟩ := DataW.trod_int Tryz.underlying5 h2
      subst e0
      have e := hcell 0 (by omega)
      rw [Go.Deep.add_add] at e
      exact ⟨n0, by simpa using e, u8_rngY w0⟩
    obtain ⟨q, hq⟩ := Go.Deep.choose_lt each
    refine ⟨(List.range len).map q, ?_, fun x hx => ?_⟩
    · have := rd_of_cells (W := W) (k := 1) (cs := byC ((List.range len).map q)) hcs hl hm (by simp [byC]) (fun h0 => ⟨_, by simpa [Addr.add] using (hq 0 (by omega)).1⟩) (fun j u hu => by
        have hj : j < len := by
          have := (List.getElem?_eq_some_iff.1 hu).1
          simpa [byC] using this
        simp [byC, hj] at hu
        rw [<- hu]
        exact (hq j (by omega)).1)
      simpa using this
    · obtain ⟨i, hi, rfl⟩ := List.mem_map.1 hx
      have := List.mem_range.1 hi
      exact (hq i (by omega)).2
set_option maxRecDepth 100000 in
theorem open_byts {W : World} {base : Nat} {v : Value} {d : DataW H} {p : List MemPlace} (hok : Value.okWide Tryz.prog W .any base 23 v) (h : DataW.Trod enc Tryz.prog W 0 (fun _ => true) true 23 v d p) (hlt : ∀ x ∈ p, x.block < W.heap.size) :
    ∃ l : List Int, BysAt W v l /\ ∀ W', Below W.heap.size W W' -> ∀ sp : Nat -> Bool, (∀ q ∈ p, sp q.block = true) -> DataW.Trod enc Tryz.prog W' 0 sp true 23 v d p := by
  obtain ⟨a0, len, cap, rfl⟩ := okWide_slice (show Tryz.prog.underlying 23 = some (.slice 5) from by kernel_rfl) hok
  have h0 := h
  obtain ⟨fuel, hf⟩ := h0
  obtain ⟨l, hl⟩ := bytes_of_trod (by simpa [Value.cells] using hf)
  exact ⟨l, hl, fun W' hb sp hsp => stays laidAll (by kernel_rfl) (of_decide_eq_true (by kernel_rfl)) h hb hlt sp hsp⟩
end
end Go.Proofs.YtcfjepcflanjbaaGreat
