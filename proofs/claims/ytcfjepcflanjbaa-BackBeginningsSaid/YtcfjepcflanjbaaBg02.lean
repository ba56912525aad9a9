/- The frame of a law's statement: an argument that is a list of bytes is opened, and stays. -/
import Derived.Test.YtcfjepcflanjbaaBf50
import Derived.Test.YtcfjepcflanjbaaBf02
import Derived.Deep.Slices
namespace Go.Proofs.Ytcfjepcflanjbaa
open Go.ChangeShapes Go.WideShapes Go.ChangeAt Go.RowKit Go.Lab
theorem u8_rngY {x : Int} (h : (Lit.int .u8 x).wf = true) : 0 ≤ x ∧ x < 256 := by
  have : 0 ≤ x ∧ x ≤ 255 := by simpa [Lit.wf, IntKind.min, IntKind.max, IntKind.signed, IntKind.bits] using h
  omega
theorem laidAll : laidOutB Try.prog = true := by kernel_rfl
theorem stays {H : Type} {enc : TypeId × Value → H} {t : TypeId} {W W' : World} {v : Value} {d : DataW H} {ps : List MemPlace} (hl : laidOutB Try.prog = true) (hr : Try.prog.readableRec t = true) (hrow : t < Try.prog.types.size)
    (h : DataW.Trod enc Try.prog W 0 (fun _ => true) true t v d ps) (hb : Below W.heap.size W W') (hlt : ∀ x ∈ ps, x.block < W.heap.size) (sp : Nat → Bool) (hsp : ∀ x ∈ ps, sp x.block = true) :
    DataW.Trod enc Try.prog W' 0 sp true t v d ps :=
  WideElems.Trod_stays hl hr hrow h (fun x hx => hb.same (hlt x hx)) hsp
section
variable {H : Type} {enc : TypeId × Value → H} {W : World} {sp : Nat → Bool} {held : Bool}
theorem rd_of_cells {v : Value} {k : Nat} {a : Addr} {len cap : Nat} {cs : List Value} (hv : v = .slice (some a) len cap) (hl : len ≤ cap) (hm : cap ≤ maxLen) (hlen : cs.length = len * k)
    (hblk : 0 < cap → ∃ u, W.cell? a = some u) (hcell : ∀ j u, cs[j]? = some u → W.cell? (a.add j) = some u) : Rd W (fun _ => True) k v len cs := by
  refine ⟨hlen, some a, cap, hv, hl, hm, fun e => (by cases e), fun ad e h0 => ?_⟩
  injection e with e
  subst e
  obtain ⟨b, off, spot⟩ := a
  obtain ⟨u0, hc0⟩ := hblk h0
  have hspot : spot = none := by simpa using World.cell?_spot hc0
  subst hspot
  cases hh : W.heap[b]? with
  | none => simp [World.cell?, hh] at hc0
  | some o =>
    have hx0 := hc0
    unfold World.cell? at hx0
    simp only [hh] at hx0
    split at hx0
    · rename_i cur t fz hoo
      injection hoo with hoo
      subst hoo
      refine ⟨rfl, cur, t, fz, trivial, rfl, fun j u hu => ?_⟩
      have h1 := hcell j u hu
      rw [add_plain] at h1
      simpa [World.cell?, hh] using h1
    · cases hx0
set_option maxRecDepth 100000 in
theorem bytes_of_trod {fuel : Nat} {v : Value} {x : DataW H × List MemPlace} (h : DataW.trod enc Try.prog W 0 (fun _ => true) held fuel 23 [v] = some x) : ∃ l : List Int, BysAt W v l := by
  rcases Go.Deep.open_slice Try.underlying23 h with ⟨hcs, hx⟩ | ⟨a, len, cap, m, n, D, Pl, hcs, _, hl, hm, hmm, _, hx⟩
  · simp at hcs
    subst hcs
    exact ⟨[], Rd.nil _ _ _, fun x hx => by cases hx⟩
  · simp at hcs
    simp only [if_true] at hmm
    subst hmm
    have ce : Try.prog.cellsOf 5 = 1 := by kernel_rfl
    have each : ∀ i, i < m → ∃ q : Int, W.cell? (a.add i) = some (.int .u8 q) ∧ 0 ≤ q ∧ q < 256 := by
      intro i hi
      obtain ⟨cs', h1, h2⟩ := hx i hi
      rw [ce] at h1
      obtain ⟨_, hlen, hcell⟩ := World.cells?_some h1
      obtain ⟨n0, e0, _, w0⟩ := DataW.trod_int Try.underlying5 h2
      subst e0
      have e := hcell 0 (by omega)
      rw [Go.Deep.add_add] at e
      exact ⟨n0, by simpa using e, u8_rngY w0⟩
    obtain ⟨q, hq⟩ := Go.Deep.choose_lt each
    refine ⟨(List.range len).map q, ?_, fun x hx => ?_⟩
    · have := rd_of_cells (W := W) (k := 1) (cs := byC ((List.range len).map q)) hcs hl hm (by simp [byC]) (fun h0 => ⟨_, by simpa [Addr.add] using (hq 0 (by omega)).1⟩) (fun j u hu => by
        have hj : j < len := by
          have := (List.getElem?_eq_some_iff.1 hu).1
          simpa [byC] using this
        simp [byC, hj] at hu
        rw [← hu]
        exact (hq j (by omega)).1)
      simpa using this
    · obtain ⟨i, hi, rfl⟩ := List.mem_map.1 hx
      have := List.mem_range.1 hi
      exact (hq i (by omega)).2
set_option maxRecDepth 100000 in
theorem open_byts {W : World} {base : Nat} {v : Value} {d : DataW H} {p : List MemPlace} (hok : Value.okWide Try.prog W .any base 23 v) (h : DataW.Trod enc Try.prog W 0 (fun _ => true) true 23 v d p) (hlt : ∀ x ∈ p, x.block < W.heap.size) :
    ∃ l : List Int, BysAt W v l ∧ ∀ W', Below W.heap.size W W' → ∀ sp : Nat → Bool, (∀ q ∈ p, sp q.block = true) → DataW.Trod enc Try.prog W' 0 sp true 23 v d p := by
  obtain ⟨a0, len, cap, rfl⟩ := okWide_slice (show Try.prog.underlying 23 = some (.slice 5) from by kernel_rfl) hok
  have h0 := h
  obtain ⟨fuel, hf⟩ := h0
  obtain ⟨l, hl⟩ := bytes_of_trod (by simpa [Value.cells] using hf)
  exact ⟨l, hl, fun W' hb sp hsp => stays laidAll (by kernel_rfl) (of_decide_eq_true (by kernel_rfl)) h hb hlt sp hsp⟩
end
end Go.Proofs.Ytcfjepcflanjbaa
