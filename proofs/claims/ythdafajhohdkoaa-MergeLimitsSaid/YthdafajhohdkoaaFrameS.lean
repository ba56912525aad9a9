/- The frame of a law's statement: an argument that is a list of characters is opened, and stays. -/
import Derived.Test.YthdafajhohdkoaaFrame
import Derived.Test.YthdafajhohdkoaaMgBs
import Derived.Deep.Slices
namespace Go.Proofs.Ythdafajhohdkoaa
open Go.ChangeShapes Go.WideShapes Go.ChangeAt Go.RowKit Go.Lab
theorem laidAll : laidOutB Try.prog = true := by kernel_rfl
theorem stays {H : Type} {enc : TypeId × Value → H} {t : TypeId} {W W' : World} {v : Value} {d : DataW H} {ps : List MemPlace} (hl : laidOutB Try.prog = true) (hr : Try.prog.readableRec t = true) (hrow : t < Try.prog.types.size)
    (h : DataW.Trod enc Try.prog W 0 (fun _ => true) true t v d ps) (hb : Below W.heap.size W W') (hlt : ∀ x ∈ ps, x.block < W.heap.size) (sp : Nat → Bool) (hsp : ∀ x ∈ ps, sp x.block = true) :
    DataW.Trod enc Try.prog W' 0 sp true t v d ps :=
  WideElems.Trod_stays hl hr hrow h (fun x hx => hb.same (hlt x hx)) hsp
section
variable {H : Type} {enc : TypeId × Value → H} {W : World} {sp : Nat → Bool} {held : Bool}
theorem rd_of_cells {v : Value} {k : Nat} {a : Addr} {len cap : Nat} {cs : List Value} (hv : v = .slice (some a) len cap) (hl : len ≤ cap) (hm : cap ≤ maxLen) (hlen : cs.length = len * k)
    (hblk : 0 < cap → ∃ u, W.cell? a = some u) (hcell : ∀ j u, cs[j]? = some u → W.cell? (a.add j) = some u) : Rd W (fun _ => True) k v len cs := by
  refine ⟨hlen, some a, cap, hv, hl, hm, fun e => (by cases e), fun ad e h0 => ?_⟩
  injection e with e
  subst e
  obtain ⟨b, off, spot⟩ := a
  obtain ⟨u0, hc0⟩ := hblk h0
  have hspot : spot = none := by simpa using World.cell?_spot hc0
  subst hspot
  cases hh : W.heap[b]? with
  | none => simp [World.cell?, hh] at hc0
  | some o =>
    have hx0 := hc0
    unfold World.cell? at hx0
    simp only [hh] at hx0
    split at hx0
    · rename_i cur t fz hoo
      injection hoo with hoo
      subst hoo
      refine ⟨rfl, cur, t, fz, trivial, rfl, fun j u hu => ?_⟩
      have h1 := hcell j u hu
      rw [add_plain] at h1
      simpa [World.cell?, hh] using h1
    · cases hx0
instance : Inhabited Sym := ⟨⟨0, 0⟩⟩
set_option maxRecDepth 100000 in
theorem syms_of_trod {fuel : Nat} {v : Value} {x : DataW H × List MemPlace} (h : DataW.trod enc Try.prog W 0 (fun _ => true) held fuel 23 [v] = some x) : ∃ l : List Sym, BaseAt W v l := by
  rcases Go.Deep.open_slice (show Try.prog.underlying 23 = some (.slice 34) from by kernel_rfl) h with ⟨hcs, hx⟩ | ⟨a, len, cap, m, n, D, Pl, hcs, _, hl, hm, hmm, _, hx⟩
  · simp at hcs
    subst hcs
    exact ⟨[], Rd.nil _ _ _⟩
  · simp at hcs
    simp only [if_true] at hmm
    subst hmm
    have ce : Try.prog.cellsOf 34 = 2 := by kernel_rfl
    have c0 : Try.prog.cellsOf 3 = 1 := by kernel_rfl
    have c1 : Try.prog.cellsOf 5 = 1 := by kernel_rfl
    have each : ∀ i, i < m → ∃ q : Sym, W.cell? (a.add (i * 2)) = some (.int .i64 q.lang) ∧ W.cell? (a.add (i * 2 + 1)) = some (.int .u8 q.c) := by
      intro i hi
      obtain ⟨cs', h1, h2⟩ := hx i hi
      rw [ce] at h1
      obtain ⟨_, hlen, hcell⟩ := World.cells?_some h1
      obtain ⟨xs, k, hk, hxy, _, hxl, hf⟩ := DataW.trod_struct Try.underlying34 h2
      match xs, hxl, cs', hlen with
      | [y0, y1], _, [v0, v1], _ =>
        have g0 := hf 0 _ rfl
        have g1 := hf 1 _ rfl
        simp [c0, c1] at g0 g1
        obtain ⟨n0, e0, _, w0⟩ := DataW.trod_int (show Try.prog.underlying 3 = some (.int .i64) from by kernel_rfl) g0
        obtain ⟨n1, e1, _, w1⟩ := DataW.trod_int (show Try.prog.underlying 5 = some (.int .u8) from by kernel_rfl) g1
        simp at e0 e1
        subst e0; subst e1
        have q0 := hcell 0 (by omega)
        have q1 := hcell 1 (by omega)
        rw [Go.Deep.add_add] at q0 q1
        exact ⟨⟨n0, n1⟩, by simpa using q0, by simpa using q1⟩
    obtain ⟨q, hq⟩ := Go.Deep.choose_lt each
    refine ⟨(List.range len).map q, ?_⟩
    have hll : ((List.range len).map q).length = len := by simp
    have hg : ∀ j u, (symsC ((List.range len).map q))[j]? = some u → W.cell? (a.add j) = some u := by
      intro j u hu
      have hj : j < len * 2 := by
        have := (List.getElem?_eq_some_iff.1 hu).1
        rw [symsC_len, hll] at this
        exact this
      have hi : j / 2 < len := by omega
      have G := symsC_get ((List.range len).map q) (j / 2) (by rw [hll]; exact hi)
      simp only [List.getElem_map, List.getElem_range] at G
      have K := hq (j / 2) (by omega)
      have hdm : j = j / 2 * 2 + j % 2 := by omega
      have hr : j % 2 < 2 := by omega
      rw [hdm]
      rw [hdm] at hu
      generalize j / 2 = i at *
      generalize j % 2 = r at *
      match r, hr with
      | 0, _ => rw [Nat.add_zero] at hu ⊢; rw [G.1] at hu; rw [← hu]; exact K.1
      | 1, _ => rw [G.2] at hu; rw [← hu]; exact K.2
    have := rd_of_cells (W := W) (k := 2) hcs hl hm (by rw [symsC_len, hll]) (fun h0 => ⟨_, by simpa [Addr.add] using (hq 0 (by omega)).1⟩) hg
    unfold BaseAt
    rw [hll]
    exact this
set_option maxRecDepth 100000 in
theorem open_syms {W : World} {base : Nat} {v : Value} {d : DataW H} {p : List MemPlace} (hok : Value.okWide Try.prog W .any base 23 v) (h : DataW.Trod enc Try.prog W 0 (fun _ => true) true 23 v d p) (hlt : ∀ x ∈ p, x.block < W.heap.size) :
    ∃ l : List Sym, BaseAt W v l ∧ ∀ W', Below W.heap.size W W' → ∀ sp : Nat → Bool, (∀ q ∈ p, sp q.block = true) → DataW.Trod enc Try.prog W' 0 sp true 23 v d p := by
  obtain ⟨a0, len, cap, rfl⟩ := okWide_slice (show Try.prog.underlying 23 = some (.slice 34) from by kernel_rfl) hok
  have h0 := h
  obtain ⟨fuel, hf⟩ := h0
  obtain ⟨l, hl⟩ := syms_of_trod (by simpa [Value.cells] using hf)
  exact ⟨l, hl, fun W' hb sp hsp => stays laidAll (by kernel_rfl) (of_decide_eq_true (by kernel_rfl)) h hb hlt sp hsp⟩
end
end Go.Proofs.Ythdafajhohdkoaa
