/- Contract: the reference's Best: the plan of the code's Best. -/
import Derived.Test.YtfljgcpfmhhgcaaRdTr
import Derived.Test.YtfljgcpfmhhgcaaRdFi
namespace Go.Proofs.Ytfljgcpfmhhgcaa
open Go.RowKit Go.Lab
attribute [local go_sem] Oper.semAt_some
set_option maxRecDepth 100000
theorem Cover.unsnoc {s n k : Nat} {ks : List Nat} (h : Cover s n (ks ++ [k])) (hs : s < 256) (hn : n ≤ 8) : k ∈ othersL s n (-1) ∧ Cover (s - 2 ^ k) n ks := by
  have hp : (ks ++ [k]).Perm (k :: ks) := List.perm_append_singleton k ks
  have hc : Cover s n (k :: ks) := ⟨hp.nodup_iff.1 h.1, fun j => by rw [← hp.mem_iff]; exact h.2 j⟩
  exact hc.tail hs hn
/-- No order that ends with k has fewer steps than its cell. -/
theorem tab_path {way : Int} {L : List Pl} (hL : ∀ p ∈ L, PlOk p) (hn : L.length ≤ 8) : ∀ (m : Nat) (ks : List Nat) (s k : Nat), ks.length = m → s < 2 ^ L.length → Cover s L.length (ks ++ [k]) → tabV way L s k ≤ stepsN way L pl0 (ks ++ [k]) := by
  intro m
  induction m with
  | zero =>
    intro ks s k hm hs hc
    obtain rfl : ks = [] := List.eq_nil_of_length_eq_zero hm
    have hs256 : s < 256 := Nat.lt_of_lt_of_le hs (two_pow_lt hn)
    obtain ⟨hk, hc2⟩ := hc.unsnoc hs256 hn
    have h0 := hc2.nil_iff (Nat.lt_of_le_of_lt (Nat.sub_le _ _) hs)
    have hge := bit_ge (othersL_iff.1 hk).2
    have := (tab_le (way := way) hL hn hs hk).1 (by omega)
    simpa [stepsN] using this
  | succ m ih =>
    intro ks s k hm hs hc
    have hs256 : s < 256 := Nat.lt_of_lt_of_le hs (two_pow_lt hn)
    obtain ⟨hk, hc2⟩ := hc.unsnoc hs256 hn
    have hne : ks ≠ [] := by intro e; rw [e] at hm; simp at hm
    obtain ⟨qs, j, rfl⟩ : ∃ qs j, ks = qs ++ [j] := ⟨ks.dropLast, ks.getLast hne, (List.dropLast_concat_getLast hne).symm⟩
    have hs2 : s - 2 ^ k < 2 ^ L.length := Nat.lt_of_le_of_lt (Nat.sub_le _ _) hs
    have h1 := ih qs (s - 2 ^ k) j (by simp at hm; exact hm) hs2 hc2
    have hj : j ∈ othersL s L.length (k : Nat) := by
      rw [others_self hs256 hn hk]
      exact (hc2.2 j).1 (by simp)
    have h2 := (tab_le (way := way) hL hn hs hk).2 j hj
    rw [stepsN_snoc]
    omega
/-- The least cell of the last row is the least steps. -/
theorem row_min {way : Int} {L : List Pl} (hL : ∀ p ∈ L, PlOk p) (hn : L.length ≤ 8) {k : Nat} (hk : k < L.length) (hmin : ∀ j, j < L.length → tabV way L (2 ^ L.length - 1) k ≤ tabV way L (2 ^ L.length - 1) j) : tabV way L (2 ^ L.length - 1) k = restV way L (2 ^ L.length - 1) pl0 := by
  have h1 := last_le (way := way) hL hn (full_lt L.length) (full_mem.2 hk)
  obtain ⟨h2, h3⟩ := order_good (way := way) hn (2 ^ L.length - 1) pl0 (full_lt L.length)
  have hp := cover_full.1 h2
  have hlen : (orderV way L (2 ^ L.length - 1) pl0).length = L.length := by rw [hp.length_eq, List.length_range]
  have hne : orderV way L (2 ^ L.length - 1) pl0 ≠ [] := by intro e; rw [e] at hlen; simp at hlen; omega
  have hsp := (List.dropLast_concat_getLast hne).symm
  generalize (orderV way L (2 ^ L.length - 1) pl0).dropLast = qs at hsp
  generalize (orderV way L (2 ^ L.length - 1) pl0).getLast hne = j at hsp
  rw [hsp] at h2 h3 hp
  have hj : j < L.length := List.mem_range.1 (hp.mem_iff.1 (by simp))
  have h4 := tab_path (way := way) hL hn qs.length qs _ j rfl (full_lt L.length) h2
  have h5 := hmin j hj
  omega
theorem load_plan30 (w : World) (g : Nat) (x y z : Value) (c0 : w.cell? ⟨g, 0, none⟩ = some x) (c1 : w.cell? ⟨g, 1, none⟩ = some y) (c2 : w.cell? ⟨g, 2, none⟩ = some z) : (loadVar 39 ⟨g, 0, none⟩).run Try.prog w = .ok (.agg #[x, y, z]) w := by
  go_simp
theorem results_plan30 {fn : Func} {p u : Tmp} (h : fn.results = #[.cell p 39, .tmp u]) (tmps : Array Value) (w : World) (g : Nat) (x y z : Value) (hp : tmps.getD p undef = .pointer (some ⟨g, 0, none⟩))
    (c0 : w.cell? ⟨g, 0, none⟩ = some x) (c1 : w.cell? ⟨g, 1, none⟩ = some y) (c2 : w.cell? ⟨g, 2, none⟩ = some z) : (results fn tmps).run Try.prog w = .ok (.tuple #[.agg #[x, y, z], tmps.getD u undef]) w := by
  rw [results_cell_tmp h, hp, show (asAddr (.pointer (some ⟨g, 0, none⟩))).run Try.prog w = .ok ⟨g, 0, none⟩ w from rfl]
  simp only [Result.andThen_ok, load_plan30 w g x y z c0 c1 c2]
/-- What the reference's Best hands back. -/
def BestR30 (w : World) (way : Int) (pl : List Pl) (need : List Int) : Ending → World → Prop := fun e w' =>
  Below w.heap.size w w' ∧ ∃ vo vl : Value, e = .returned (.tuple #[planV vo (if taskZ way pl.length need = 0 then restV way (needL pl need) (2 ^ need.length - 1) pl0 else 0) vl, .int .i64 (taskZ way pl.length need)]) ∧
    IntsOf TkR w' vo (if taskZ way pl.length need = 0 then orderZ way (needL pl need) need else []) ∧ TabOf TkR w' vl (if taskZ way pl.length need = 0 then tabL way (needL pl need) else [])
/-- The loop over the last row. -/
def MinI (T : Nat → Int) (n i : Nat) (acc : Int) : Prop := i ≤ n ∧ ((i = 0 ∧ acc = 0) ∨ ∃ k, k < i ∧ acc = T k ∧ ∀ j, j < i → T k ≤ T j)
theorem MinI.take {T : Nat → Int} {n i : Nat} {acc : Int} (h : MinI T n i acc) (hi : i < n) (ht : i = 0 ∨ T i < acc) : MinI T n (i + 1) (T i) := by
  refine ⟨hi, .inr ⟨i, Nat.lt_succ_self i, rfl, fun j hj => ?_⟩⟩
  rcases h.2 with ⟨h1, _⟩ | ⟨k, h1, h2, h3⟩
  · obtain rfl : j = i := by omega
    exact Int.le_refl (T j)
  · by_cases hji : j = i
    · rw [hji]; exact Int.le_refl _
    · have := h3 j (by omega)
      rcases ht with h | h
      · omega
      · omega
theorem MinI.skip {T : Nat → Int} {n i : Nat} {acc : Int} (h : MinI T n i acc) (hi : i < n) (h0 : i ≠ 0) (ht : ¬ T i < acc) : MinI T n (i + 1) acc := by
  refine ⟨hi, .inr ?_⟩
  rcases h.2 with ⟨h1, _⟩ | ⟨k, h1, h2, h3⟩
  · exact absurd h1 h0
  · refine ⟨k, by omega, h2, fun j hj => ?_⟩
    by_cases hji : j = i
    · rw [hji]
      omega
    · exact h3 j (by omega)
theorem MinI.done {way : Int} {L : List Pl} (hL : ∀ p ∈ L, PlOk p) (hn : L.length ≤ 8) {acc : Int} (h : MinI (fun k => tabV way L (2 ^ L.length - 1) k) L.length L.length acc) : acc = restV way L (2 ^ L.length - 1) pl0 := by
  rcases h.2 with ⟨h1, h2⟩ | ⟨k, h1, h2, h3⟩
  · have e : (2 : Nat) ^ L.length - 1 = 0 := by rw [h1]
    rw [h2, e, restV_zero]
  · rw [h2]
    exact row_min hL hn h1 h3
def MinB (way : Int) (L : List Pl) (n : Nat) (W4 : World) (P4 : Nat) (tv : Value) (s11 : Value) (wr : World) : Prop :=
  ∃ (i : Nat) (acc : Int), s11 = .int .i64 (i : Nat) ∧ MinI (fun k => tabV way L (2 ^ n - 1) k) n i acc ∧ wr.heap[P4]? = some (.cells #[.slice none 0 0, .int .i64 acc, tv] 39) ∧ Turned (fun b => b = P4) W4 wr
theorem MinI.bd {T : Nat → Int} {n i : Nat} {acc : Int} (h : MinI T n i acc) (hT : ∀ k, -1 ≤ T k ∧ T k ≤ 10240000000) : -1 ≤ acc ∧ acc ≤ 10240000000 := by
  rcases h.2 with ⟨_, h2⟩ | ⟨k, _, h2, _⟩
  · omega
  · rw [h2]
    exact hT k
set_option maxRecDepth 100000 in
set_option maxHeartbeats 20000000 in
theorem best30_any (way : Int) (pl : List Pl) (need : List Int) (pv nv : Value) (hok : ∀ p ∈ pl, PlOk p) (w : World) (hp : PlacesAt w pv pl) (hn : IntsAt w nv need) :
    Calls Try.prog 19 #[.int .i64 way, pv, nv] w (BestR30 w way pl need) := by
  have HT := hidep (fun W (hW : Below w.heap.size w W) => task30_any way pv nv pl need W (hp.below hW) (hn.below hW))
  have hPN := hidep (show ∀ W, Below w.heap.size w W → PlacesAt W pv pl ∧ IntsAt W nv need from fun W hW => ⟨hp.below hW, hn.below hW⟩)
  obtain ⟨a, c, rfl, hca, hma⟩ := hp.form
  obtain ⟨b, d, rfl, hcb, hmb⟩ := hn.1.form
  have HNR := hidep hn.2
  have HOK := hidep hok
  clear hp hn hok
  obtain ⟨e0, he0⟩ : ∃ e0, e0 = taskZ way pl.length need := ⟨_, rfl⟩
  rw [← he0] at HT
  have HE0 := hidep he0
  clear he0
  have hb1 : Below w.heap.size w (w.alloc (.cells #[.slice none 0 0, .int .i64 0, .slice none 0 0] 39)) := (Below.refl _ _).alloc (Nat.le_refl _) _
  have hq1 := heap_alloc_new w (.cells #[.slice none 0 0, .int .i64 0, .slice none 0 0] 39)
  go_enter Try.func19, Try.ntmps19
  go_upto_region 1 with (fail)
  generalize w.alloc (.cells #[.slice none 0 0, .int .i64 0, .slice none 0 0] 39) = W0 at *
  obtain ⟨R0, hR0⟩ : ∃ R0, R0 = w.heap.size := ⟨_, rfl⟩
  rw [← hR0] at hq1 ⊢
  have HR0 := hidep hR0
  have HT0 := hidep (HT.out W0 hb1)
  clear hR0
  by_cases h0 : e0 = 0
  · subst h0
    have htz : taskZ way pl.length need = 0 := HE0.out.symm
    obtain ⟨hneed, hwy0, hwy3, hpw⟩ := task_need rfl htz
    have hn8 := hneed.1
    have HTB := hidep (fun W (hW : Below w.heap.size w W) => table30_any way pl need _ _ HOK.out hneed W (hPN.out W hW).1 (hPN.out W hW).2)
    have hL := needL_ok (need := need) HOK.out
    have hLn := needL_len pl need
    have HFI := hidep (fun (W : World) (hW : Below w.heap.size w W) => first_any way pl need _ _ (restV way (needL pl need) (2 ^ need.length - 1) pl0) HOK.out hneed hpw HNR.out need.length [] (2 ^ need.length - 1) pl0 (.slice none 0 0) W (Begun.start pl need) (by simp) (by simp [stepsN]) (hPN.out W hW).1 (hPN.out W hW).2 (IntsOf.nil _ W))
    have htl : (tabL way (needL pl need)).length = 2 ^ need.length := by simp [tabL, hLn]
    have hpos := Nat.two_pow_pos need.length
    have h256 := two_pow_lt hn8
    obtain ⟨N, hN⟩ : ∃ N, N = (tabL way (needL pl need)).length := ⟨_, rfl⟩
    have hN1 : 1 ≤ N := by omega
    have hN2 : N ≤ 256 := by omega
    have HN := hidep (show N = 2 ^ need.length ∧ N = (tabL way (needL pl need)).length from ⟨by omega, hN⟩)
    have HTL := hidep htl
    have hLn2 := hLn
    clear htl hpos h256 hwy0 hwy3
    go_upto_region 4 with (first
      | (go_at_call 41; refine HT0.out.mono ?_; rintro e w1 ⟨rfl, n1, hw1⟩; have hb01 : Below W0.heap.size W0 w1 := (by rw [hw1]; exact below_drewN (Below.refl _ _) n1); have hq2 := below_push hb01 hq1; clear hw1)
      | fail)
    have hb11 := hb1.trans (hb01.mono hb1.size)
    go_upto_region 5 with (first
      | (go_at_call 42; refine (HTB.out _ hb11).mono ?_; rintro e w4 ⟨tv, rfl, htab, hb4⟩; obtain ⟨ta, tc, rfl, htc, htm⟩ := TabOf.form htab)
      | fail)
    clear hN
    rw [← HN.out.2] at htab htc ⊢
    have HTAB := hidep htab
    obtain ⟨vs, hvl, hvr, hrows⟩ := htab
    rw [← HN.out.2] at hvl hvr
    obtain ⟨lv, hlv⟩ : ∃ lv, vs[N - 1]? = some lv := ⟨vs[N - 1]'(by omega), List.getElem?_eq_getElem _⟩
    have hlr : (tabL way (needL pl need))[N - 1]? = some (rowL way (needL pl need) (N - 1)) := by
      have h1 := HN.out.1
      have : N - 1 < 2 ^ need.length := by omega
      simp [tabL, hLn, this]
    have hli := hrows (N - 1) lv _ hlv hlr
    have hrl : (rowL way (needL pl need) (N - 1)).length = need.length := by rw [rowL_len, hLn]
    obtain ⟨la, lc, rfl, hlc, hlm⟩ := hli.1.form
    rw [hrl] at hlc hlv hli
    obtain ⟨tb, tof, rfl, htbl, hcells⟩ := Rd.at hvr (by omega)
    have hlast := hcells _ _ hlv
    have HLI := hidep (show IntsAt w4 (.slice la (rowL way (needL pl need) (N - 1)).length lc) (rowL way (needL pl need) (N - 1)) from by rw [hrl]; exact ⟨hli.1.mono (fun _ _ => trivial), hli.2⟩)
    have hb14 := hb11.trans (hb4.mono hb11.size)
    have hq4 := below_push hb4 hq2
    have hP4 := heap_alloc_new w4 (.cells #[.slice none 0 0, .int .i64 0, .slice (some ⟨tb, tof, none⟩) N tc] 39)
    have hbA : Below w4.heap.size w4 (w4.alloc (.cells #[.slice none 0 0, .int .i64 0, .slice (some ⟨tb, tof, none⟩) N tc] 39)) := (Below.refl _ _).alloc (Nat.le_refl _) _
    have hRP : R0 < w4.heap.size := lt_of_block hq4
    generalize w4.alloc (.cells #[.slice none 0 0, .int .i64 0, .slice (some ⟨tb, tof, none⟩) N tc] 39) = W4 at *
    obtain ⟨P4, hP4e⟩ : ∃ P4, P4 = w4.heap.size := ⟨_, rfl⟩
    rw [← hP4e] at hP4 hRP ⊢
    have hlast4 := (hbA.cell (p := ⟨tb, tof + (N - 1), none⟩) htbl).trans hlast
    have hq5 := below_push hbA hq4
    have HP4E := hidep hP4e
    have hb04 := hb14.trans (hbA.mono hb14.size)
    have hTB := fun k => tabV_bd (way := way) hL (s := 2 ^ need.length - 1) (by have := two_pow_lt hn8; omega) k
    have HROW := hidep (show ∀ X, Below W4.heap.size W4 X → IntsAt X (.slice la (rowL way (needL pl need) (N - 1)).length lc) (rowL way (needL pl need) (N - 1)) from fun X hX => (HLI.out.below hbA).below hX)
    have HTAB4 := hidep (show TabOf TkR W4 (.slice (some ⟨tb, tof, none⟩) N tc) (tabL way (needL pl need)) from HTAB.out.below hbA)
    have HRL := hidep hrl
    have HRC := hidep (show ∀ i, i < need.length → ∃ rb ro, la = some ⟨rb, ro, none⟩ ∧ rb < P4 ∧ W4.cell? ⟨rb, ro + i, none⟩ = some (.int .i64 (tabV way (needL pl need) (2 ^ need.length - 1) i)) from fun i hi => by
      obtain ⟨rb, ro, e, hlt, hc⟩ := ints_get HLI.out (k := i) (by rw [hrl]; exact hi)
      have hg : (rowL way (needL pl need) (N - 1))[i]'(by rw [hrl]; exact hi) = tabV way (needL pl need) (2 ^ need.length - 1) i := by
        have h1 := HN.out.1
        simp [rowL, h1]
      rw [hg] at hc
      exact ⟨rb, ro, e, by rw [hP4e]; exact hlt, (hbA.cell (p := ⟨rb, ro + i, none⟩) hlt).trans hc⟩)
    have HFI2 := hidep (fun (W : World) (hW : Below w.heap.size w W) => (HFI.out W hW).mono (fun e w' (h : FirstR W way pl need (restV way (needL pl need) (2 ^ need.length - 1) pl0) [] (2 ^ need.length - 1) pl0 e w') => (show Below W.heap.size W w' ∧ ∃ (oa : Option Addr) (ol oc : Nat), e = .returned (.tuple #[.slice oa ol oc, .bool true]) ∧ IntsOf (· = 3) w' (.slice oa ol oc) (orderZ way (needL pl need) need) from by
      obtain ⟨g1, g2, _⟩ := h
      obtain ⟨v, hv, hvi⟩ := g2 (by simp [stepsN])
      rw [List.nil_append] at hvi
      obtain ⟨oa, oc, rfl, _, _⟩ := hvi.1.form
      exact ⟨g1, oa, _, oc, hv, by rw [orderZ_eq]; exact hvi⟩)))
    have HR := hidep (show R0 < P4 ∧ P4 < W4.heap.size from ⟨hRP, lt_of_block hP4⟩)
    have HB04 := hidep hb04
    have hP4w := hP4
    have HQ5 := hidep hq5
    obtain ⟨y0, y1, y2⟩ := box3_cells hP4
    have hn1 : IntKind.i64.wrap ((N : Int) - 1) = (N : Int) - 1 := IntWalk.i64_in _ (by omega)
    have hn2 : ((N : Int) - 1).toNat = N - 1 := by omega
    have hn3 : (0 : Int) ≤ (N : Int) - 1 := by omega
    have hn4 : (N : Int) - 1 < (N : Int) := by omega
    clear hP4e hlast htbl hcells hli hrl hlr hlv hrows hvl hvr hq1 hq2 hq4 hq5 hb1 hb01 hb11 hb14 hbA hb4 hb04 hRP hLn HT HTB hlc
    go_upto_region 7 with (fail)
    clear hn1 hn2 hn3 hn4 y0 y1 y2 hlast4
    refine wp_loop (LoopI 66 (fun tm ds wr => (slot tm 0) = .int .i64 way ∧ (slot tm 1) = .slice a pl.length c ∧ (slot tm 2) = .slice b need.length d ∧ (slot tm 6) = .pointer (some ⟨R0, 0, none⟩) ∧ (slot tm 9) = .pointer (some ⟨P4, 0, none⟩) ∧ (slot tm 10) = .slice la need.length lc ∧ ds = [] ∧ MinB way (needL pl need) need.length W4 P4 (.slice (some ⟨tb, tof, none⟩) N tc) (slot tm 11) wr)) (fun a' wr => need.length - (intOf (a'.tmps.getD 11 undef)).toNat) ?mainStart ?mainRound
    case' mainStart => refine LoopI.mk rfl ?_
    case' mainRound => (rintro ⟨t, ds⟩ wr ⟨hts, hrel⟩; dsimp only at hts hrel; rw [frame66 t ds hts])
    case mainStart => exact ⟨rfl, rfl, rfl, rfl, rfl, rfl, rfl, 0, 0, rfl, ⟨Nat.zero_le _, .inl ⟨rfl, rfl⟩⟩, hP4, Turned.refl _ _⟩
    obtain ⟨h0, h1, h2, h6, h9, h10, hds, i, acc, h11, hM, hPc, hTr⟩ := hrel
    subst hds
    rw [h0, h1, h2, h6, h9, h10, h11]
    clear h0 h1 h2 h6 h9 h10 h11 hts hP4
    have HM := hidep hM
    have hacc := MinI.bd hM hTB
    have hi := hM.1
    obtain ⟨y0, y1, y2⟩ := box3_cells hPc
    have f1 := box_frozen hPc 1
    clear hM
    by_cases hlt : i < need.length
    · have hi0 : (0 : Int) ≤ (i : Int) := by omega
      have hi1 : (i : Int) < (need.length : Int) := by omega
      obtain ⟨rb, ro, rfl, hrb, hrc⟩ := HRC.out i hlt
      have hxc := hTr.cell hrc (by omega)
      have hxb := hTB i
      have HTK := hidep (fun (h : i = 0 ∨ tabV way (needL pl need) (2 ^ need.length - 1) i < acc) => MinI.take HM.out hlt h)
      have HSK := hidep (fun (h0 : i ≠ 0) (h : ¬ tabV way (needL pl need) (2 ^ need.length - 1) i < acc) => MinI.skip HM.out hlt h0 h)
      obtain ⟨x, hx⟩ : ∃ x, x = tabV way (needL pl need) (2 ^ need.length - 1) i := ⟨_, rfl⟩
      rw [← hx] at hxc hxb HTK HSK
      have HX := hidep hx
      clear hx hrc hTB
      by_cases hz : i = 0
      · have hzi : ((i : Int) == 0) = true := by rw [hz]; rfl
        have HT2 := hidep (HTK.out (.inl hz))
        clear hz HTK HSK HM
        go_upto_region 9 with (fail)
        go_quiet (fail)
        apply_assumption
        refine wp_abs (fun X => Turned (fun _ => False) wr X) (Turned.of_below (below_drewN (Below.refl _ _) _)) ?_
        rintro X hX
        have k1 := hX.cells hPc id
        have kx := hX.cell hxc id
        obtain ⟨z0, z1, z2⟩ := box3_cells k1
        have g1 := box_frozen k1 1
        have k2 := heap_set k1 1 (.int .i64 x)
        have hT2 : Turned (fun b => b = P4) W4 (X.setCell ⟨P4, 1, none⟩ (.int .i64 x)) := (hTr.trans (hX.mono (fun _ _ h => h.elim))).setCell ⟨P4, 1, none⟩ _ (.inr rfl)
        have HK2 := hidep k2
        have HT3 := hidep hT2
        clear k1 k2 hT2 hTr hX y0 y1 y2 f1 hPc hxc
        go_wp2
        refine ⟨LoopI.mk rfl ⟨rfl, rfl, rfl, rfl, rfl, rfl, rfl, i + 1, x, by show Value.int _ _ = _; go_num, by rw [HX.out]; rw [HX.out] at HT2; exact HT2.out, HK2.out, HT3.out⟩, ?_⟩
        show need.length - _ < need.length - _
        simp [intOf]; omega
      · have hzi : ((i : Int) == 0) = false := beq_false_of_ne (by omega)
        by_cases hxa : x < acc
        · have hxd : decide (x < acc) = true := decide_eq_true hxa
          have HT2 := hidep (HTK.out (.inr hxa))
          clear hz HTK HSK HM
          go_upto_region 9 with (fail)
          go_quiet (fail)
          apply_assumption
          refine wp_abs (fun X => Turned (fun _ => False) wr X) (Turned.of_below (below_drewN (Below.refl _ _) _)) ?_
          rintro X hX
          have k1 := hX.cells hPc id
          have kx := hX.cell hxc id
          obtain ⟨z0, z1, z2⟩ := box3_cells k1
          have g1 := box_frozen k1 1
          have k2 := heap_set k1 1 (.int .i64 x)
          have hT2 : Turned (fun b => b = P4) W4 (X.setCell ⟨P4, 1, none⟩ (.int .i64 x)) := (hTr.trans (hX.mono (fun _ _ h => h.elim))).setCell ⟨P4, 1, none⟩ _ (.inr rfl)
          have HK2 := hidep k2
          have HT3 := hidep hT2
          clear k1 k2 hT2 hTr hX y0 y1 y2 f1 hPc hxc
          go_wp2
          refine ⟨LoopI.mk rfl ⟨rfl, rfl, rfl, rfl, rfl, rfl, rfl, i + 1, x, by show Value.int _ _ = _; go_num, by rw [HX.out]; rw [HX.out] at HT2; exact HT2.out, HK2.out, HT3.out⟩, ?_⟩
          show need.length - _ < need.length - _
          simp [intOf]; omega
        · have hxd : decide (x < acc) = false := decide_eq_false hxa
          have HT2 := hidep (HSK.out hz hxa)
          clear hz HTK HSK HM
          go_upto_region 9 with (fail)
          go_quiet (fail)
          apply_assumption
          refine wp_abs (fun X => Turned (fun _ => False) wr X) (Turned.of_below (below_drewN (Below.refl _ _) _)) ?_
          rintro X hX
          have k1 := hX.cells hPc id
          have hT2 : Turned (fun b => b = P4) W4 X := hTr.trans (hX.mono (fun _ _ h => h.elim))
          have HK2 := hidep k1
          have HT3 := hidep hT2
          clear k1 hT2 hTr hX y0 y1 y2 f1 hPc hxc
          go_wp2
          refine ⟨LoopI.mk rfl ⟨rfl, rfl, rfl, rfl, rfl, rfl, rfl, i + 1, acc, by show Value.int _ _ = _; go_num, HT2.out, HK2.out, HT3.out⟩, ?_⟩
          show need.length - _ < need.length - _
          simp [intOf]; omega
    · have hin : i = need.length := by omega
      subst hin
      have hac : acc = restV way (needL pl need) (2 ^ need.length - 1) pl0 := by
        have h := HM.out
        have hd := MinI.done (way := way) hL (by rw [hLn2]; exact hn8) (acc := acc) (by rw [hLn2]; exact h)
        rwa [hLn2] at hd
      have hbwr : Below w.heap.size w wr := by
        have h4 := HB04.out
        have h5 := HR0.out
        exact ⟨hTr.os.trans h4.os, hTr.tape.trans h4.tape, hTr.output.trans h4.output, Nat.le_trans h4.size hTr.size, fun b hb => (hTr.block b (Nat.lt_of_lt_of_le hb h4.size) (by have := HR.out; omega)).trans (h4.block b hb)⟩
      have HF3 := hidep (HFI2.out wr hbwr)
      rw [← hac] at HF3
      have hR0c := hTr.cells HQ5.out (by have := HR.out; omega)
      have hHAC := hidep hac
      have htk : TabOf TkR wr (.slice (some ⟨tb, tof, none⟩) N tc) (tabL way (needL pl need)) := HTAB4.out.keeps ⟨hTr.size, fun b cur t fz ht hb => hTr.cells hb (by
        rintro rfl
        rw [hP4w] at hb
        injection hb with hb
        injection hb with _ ht2 _
        subst ht2
        rcases ht with h | h <;> exact absurd h (by decide))⟩
      have HTK := hidep htk
      clear hac HM hTB HFI HFI2 htk
      go_upto_region 12 with (first
        | (go_at_call 43; refine HF3.out.mono ?_; rintro e w11 ⟨hb11, oa, ol, oc, rfl, hoi⟩; have hq6 := below_push hb11 hPc; have hq7 := below_push hb11 hR0c; obtain ⟨z0, z1, z2⟩ := box3_cells hq6; have g0 := box_frozen hq6 0)
        | fail)
      refine wp_abs (fun X => X.heap[P4]? = some (.cells #[.slice oa ol oc, .int .i64 acc, .slice (some ⟨tb, tof, none⟩) N tc] 39) ∧ X.heap[R0]? = some (.cells #[.slice none 0 0, .int .i64 0, .slice none 0 0] 39) ∧ Below w.heap.size w X ∧ IntsOf TkR X (.slice oa ol oc) (orderZ way (needL pl need) need) ∧ TabOf TkR X (.slice (some ⟨tb, tof, none⟩) N tc) (tabL way (needL pl need)))
        ⟨heap_set hq6 0 _, (Below.heap_setCell w11 ⟨P4, 0, none⟩ _ R0 (by have := HR.out; simp only; omega)).trans hq7, ?_, ?_, ?_⟩ ?_
      · have h1 := hbwr.trans (hb11.mono hbwr.size)
        refine h1.setCell (p := ⟨P4, 0, none⟩) ?_ _
        have := HR.out
        have := HR0.out
        simp only
        omega
      · exact (show IntsOf TkR w11 _ _ from ⟨hoi.1.mono (fun _ h => .inr h), hoi.2⟩).keeps (Keeps.setCell (T := TkR) (a := ⟨P4, 0, none⟩) hq6 (by rintro t (h | h) <;> rw [h] <;> decide) _)
      · exact (HTK.out.below hb11).keeps (Keeps.setCell (T := TkR) (a := ⟨P4, 0, none⟩) hq6 (by rintro t (h | h) <;> rw [h] <;> decide) _)
      rintro X ⟨hXP, hXR, hXb, hXo, hXt⟩
      clear z0 z1 z2 g0 hq6 hq7 hoi hb11
      obtain ⟨z0, z1, z2⟩ := box3_cells hXP
      obtain ⟨r0, r1, r2⟩ := box3_cells hXR
      have g0 := box_frozen hXR 0
      have g1 := box_frozen hXR 1
      have g2 := box_frozen hXR 2
      have HXB := hidep hXb
      have HXO := hidep hXo
      have HXT := hidep hXt
      clear hXb hXo hXt
      go_wp2
      have hke : Keeps TkR X (((X.setCell ⟨R0, 0, none⟩ (.slice oa ol oc)).setCell ⟨R0, 1, none⟩ (.int .i64 acc)).setCell ⟨R0, 2, none⟩ (.slice (some ⟨tb, tof, none⟩) N tc)) := by
        have ht : ∀ t, TkR t → t ≠ 39 := by rintro t (h | h) <;> rw [h] <;> decide
        have k1 := heap_set hXR 0 (.slice oa ol oc)
        have k2 := heap_set k1 1 (.int .i64 acc)
        exact ((Keeps.setCell (T := TkR) (a := ⟨R0, 0, none⟩) hXR ht _).trans (Keeps.setCell (T := TkR) (a := ⟨R0, 1, none⟩) k1 ht _)).trans (Keeps.setCell (T := TkR) (a := ⟨R0, 2, none⟩) k2 ht _)
      obtain ⟨v0, v1, v2⟩ := box3_cells (heap_set (heap_set (heap_set hXR 0 (.slice oa ol oc)) 1 (.int .i64 acc)) 2 (.slice (some ⟨tb, tof, none⟩) N tc))
      have hbb := ((HXB.out.setCell (p := ⟨R0, 0, none⟩) (by rw [HR0.out]; exact Nat.le_refl _) (.slice oa ol oc)).setCell (p := ⟨R0, 1, none⟩) (by rw [HR0.out]; exact Nat.le_refl _) (.int .i64 acc)).setCell (p := ⟨R0, 2, none⟩) (by rw [HR0.out]; exact Nat.le_refl _) (.slice (some ⟨tb, tof, none⟩) N tc)
      refine bodyPost_ret (results_plan30 rfl _ _ R0 _ _ _ rfl v0 v1 v2) rfl ?_
      refine ⟨hbb, .slice oa ol oc, .slice (some ⟨tb, tof, none⟩) N tc, ?_, ?_, ?_⟩
      · rw [if_pos htz, ← hHAC.out, htz]; rfl
      · rw [if_pos htz]; exact HXO.out.keeps hke
      · rw [if_pos htz]; exact HXT.out.keeps hke
  · have h0i : (e0 == 0) = false := beq_false_of_ne h0
    have HZ := hidep (show ¬ taskZ way pl.length need = 0 from by rw [← HE0.out]; exact h0)
    clear h0 HT HNR HOK
    go_wp2_with (first
      | (go_at_call 41; refine HT0.out.mono ?_; rintro e w1 ⟨rfl, n1, hw1⟩; have hb01 : Below W0.heap.size W0 w1 := (by rw [hw1]; exact below_drewN (Below.refl _ _) n1); have hq2 := below_push hb01 hq1; clear hw1; obtain ⟨y0, y1, y2⟩ := box3_cells hq2; have f0 := box_frozen hq2 0; have f1 := box_frozen hq2 1; have f2 := box_frozen hq2 2)
      | fail)
    obtain ⟨r0, r1, r2⟩ := box3_cells (heap_set (heap_set (heap_set hq2 0 (.slice none 0 0)) 1 (.int .i64 0)) 2 (.slice none 0 0))
    have hbb := ((hb1.trans (hb01.mono hb1.size)).setCell (p := ⟨R0, 0, none⟩) (by rw [HR0.out]; exact Nat.le_refl _) (.slice none 0 0)).setCell (p := ⟨R0, 1, none⟩) (by rw [HR0.out]; exact Nat.le_refl _) (.int .i64 0) |>.setCell (p := ⟨R0, 2, none⟩) (by rw [HR0.out]; exact Nat.le_refl _) (.slice none 0 0)
    refine bodyPost_ret (results_plan30 rfl _ _ R0 _ _ _ rfl r0 r1 r2) rfl ?_
    refine ⟨hbb, .slice none 0 0, .slice none 0 0, ?_, ?_, ?_⟩
    · rw [if_neg HZ.out, ← HE0.out]; rfl
    · rw [if_neg HZ.out]; exact IntsOf.nil _ _
    · rw [if_neg HZ.out]; exact TabOf.nil _ _
end Go.Proofs.Ytfljgcpfmhhgcaa
