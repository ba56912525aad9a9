/- Contract: the tables of the examples. -/
import Derived.Test.YtcfjepcflanjbaaGreatBr11
import Derived.Test.YtcfjepcflanjbaaGreatBr36
import Derived.Test.YtcfjepcflanjbaaGreatBr30
namespace Go.Proofs.YtcfjepcflanjbaaGreat
open Go.RowKit Go.Lab Go.Shelf
set_option maxRecDepth 100000
theorem zq4a (i : Nat) : [(97 + (i : Int))].foldl (fun r n => r.push (UInt8.ofNat n.toNat)) ByteArray.empty = lttB i := by
  have : (97 + (i : Int)).toNat = 97 + i := by omega
  simp only [List.foldl_cons, List.foldl_nil, this]
  rfl
theorem zq27 {w : World} {b : Nat} {x y z : Value} {t : TypeId} {fz : Nat × Nat} (h : w.heap[b]? = some (.cells #[x, y, z] t fz)) : w.cell? ⟨b, 0, none⟩ = some x /\ w.cell? ⟨b, 1, none⟩ = some y /\ w.cell? ⟨b, 2, none⟩ = some z := by simp [World.cell?, h]
theorem zqa6 (w : World) (a b c d e : Obj) : (((((w.alloc a).alloc b).alloc c).alloc d).alloc e).heap[w.heap.size]? = some a /\ (((((w.alloc a).alloc b).alloc c).alloc d).alloc e).heap[w.heap.size + 1]? = some b /\ (((((w.alloc a).alloc b).alloc c).alloc d).alloc e).heap[w.heap.size + 2]? = some c /\ (((((w.alloc a).alloc b).alloc c).alloc d).alloc e).heap[w.heap.size + 3]? = some d := by
  have ha := heap_alloc_new w a
  have hb := heap_alloc_new (w.alloc a) b
  have hc := heap_alloc_new ((w.alloc a).alloc b) c
  have hd := heap_alloc_new (((w.alloc a).alloc b).alloc c) d
  simp only [World.size_alloc] at hb hc hd
  refine ⟨?_, ?_, ?_, ?_⟩
  · exact (Below.heap_alloc _ e _ (by simp only [World.size_alloc]; omega)).trans ((Below.heap_alloc _ d _ (by simp only [World.size_alloc]; omega)).trans ((Below.heap_alloc _ c _ (by simp only [World.size_alloc]; omega)).trans ((Below.heap_alloc _ b _ (by simp only [World.size_alloc]; omega)).trans ha)))
  · exact (Below.heap_alloc _ e _ (by simp only [World.size_alloc]; omega)).trans ((Below.heap_alloc _ d _ (by simp only [World.size_alloc]; omega)).trans ((Below.heap_alloc _ c _ (by simp only [World.size_alloc]; omega)).trans hb))
  · exact (Below.heap_alloc _ e _ (by simp only [World.size_alloc]; omega)).trans ((Below.heap_alloc _ d _ (by simp only [World.size_alloc]; omega)).trans hc)
  · exact (Below.heap_alloc _ e _ (by simp only [World.size_alloc]; omega)).trans hd
theorem TbS.field {w0 W : World} {Tb : Nat} {va vb d c n e s : Value} {La Lb : List RuleZ} (h : TbS w0 Tb va vb d c n e s La Lb W) (j : Nat) (l : List Int) (hl : l.length <= 1000) (hr : ∀ x ∈ l, 1 <= x /\ x <= 63) {d' c' n' e' s' : Value} (hc : (#[va, vb, d, c, n, e, s] : Array Value).setIfInBounds j (.slice (some ⟨W.heap.size, 0, none⟩) l.length l.length) = #[va, vb, d', c', n', e', s']) :
    TbS w0 Tb va vb d' c' n' e' s' La Lb ((W.setCell ⟨Tb, j, none⟩ (.slice (some ⟨W.heap.size, 0, none⟩) l.length l.length)).alloc (.cells (byC l).toArray 5)) /\ ByT ((W.setCell ⟨Tb, j, none⟩ (.slice (some ⟨W.heap.size, 0, none⟩) l.length l.length)).alloc (.cells (byC l).toArray 5)) (.slice (some ⟨W.heap.size, 0, none⟩) l.length l.length) l /\ Keeps (fun t => t ≠ 29) W ((W.setCell ⟨Tb, j, none⟩ (.slice (some ⟨W.heap.size, 0, none⟩) l.length l.length)).alloc (.cells (byC l).toArray 5)) := by
  have h1 := h.store j (.slice (some ⟨W.heap.size, 0, none⟩) l.length l.length) hc
  have hs : (W.setCell ⟨Tb, j, none⟩ (.slice (some ⟨W.heap.size, 0, none⟩) l.length l.length)).heap.size = W.heap.size := by simp [World.setCell]
  have hn := heap_alloc_new (W.setCell ⟨Tb, j, none⟩ (.slice (some ⟨W.heap.size, 0, none⟩) l.length l.length)) (.cells (byC l).toArray 5)
  rw [hs] at hn
  exact ⟨h1.below ((Below.refl _ _).alloc (Nat.le_refl _) _), zq6b l hn hl hr, (Keeps.setCell (a := ⟨Tb, j, none⟩) h.box (fun t ht => ht) _).trans (Keeps.alloc _ _ _)⟩
def smB (i : Nat) : RuleZ := ⟨lttB i, 0, [((1 + i : Nat) : Int)]⟩
theorem smBase_take {i : Nat} (h : i < 26) : zq21.take (i + 1) = zq21.take i ++ [smB i] := by
  have hl : i < zq21.length := by simp [zq21]; exact h
  rw [List.take_succ_eq_append_getElem hl]
  simp [zq21, smB]
def VSm (w : World) (Tb : Nat) (iv : Value) (wr : World) : Prop :=
  ∃ (i : Nat) (va vb : Value), i <= 26 /\ iv = .int .i64 (i : Nat) /\ TbS w Tb va vb (.slice none 0 0) (.slice none 0 0) (.slice none 0 0) (.slice none 0 0) (.slice none 0 0) (zq21.take i) (zq21.take i) wr
set_option maxHeartbeats 4000000 in
theorem small_any (w : World) : Calls Tryz.prog 48 #[] w fun e w' => ∃ V, e = .returned (TabV.v V) /\ TabIn w' V zq1c /\ Below w.heap.size w w' := by
  go_enter Tryz.func48, Tryz.ntmps48
  go_upto_region 1 with (fail)
  obtain ⟨Rb, hRb⟩ : ∃ B, B = w.heap.size := ⟨_, rfl⟩
  refine zq9 (fun X => Below w.heap.size w X /\ X.heap[Rb]? = some (.cells #[.slice none 0 0, .slice none 0 0, .slice none 0 0, .slice none 0 0, .slice none 0 0, .slice none 0 0, .slice none 0 0] 29)) ⟨(Below.refl _ _).alloc (Nat.le_refl _) _, by rw [hRb]; exact heap_alloc_new _ _⟩ ?_
  rintro X0 ⟨hb0, hr0⟩
  rw [<- hRb]
  have HX0 := hidep (And.intro hb0 (And.intro hr0 hRb))
  clear hb0 hr0 hRb
  go_upto_region 2 with (fail)
  obtain ⟨Tb, hTb⟩ : ∃ B, B = X0.heap.size := ⟨_, rfl⟩
  refine zq9 (fun X => TbS X0 Tb (.slice none 0 0) (.slice none 0 0) (.slice none 0 0) (.slice none 0 0) (.slice none 0 0) (.slice none 0 0) (.slice none 0 0) [] [] X) ⟨(Below.refl _ _).alloc (Nat.le_refl _) _, by rw [hTb]; exact Nat.le_refl _, by rw [hTb]; exact heap_alloc_new _ _, RulesT.nil _ _, RulesT.nil _ _, fun g h => by simp [Value.ownBlock] at h⟩ ?_
  intro X1 hT1
  rw [<- hTb]
  have HT1 := hidep hT1
  clear hTb hT1
  go_upto_region 3 with (fail)
  refine wp_loop (LoopI 66 (fun tm ds wr => (slot tm 0) = .pointer (some ⟨Rb, 0, none⟩) /\ (slot tm 1) = .pointer (some ⟨Tb, 0, none⟩) /\ ds = [] /\ VSm X0 Tb (slot tm 2) wr)) (fun a' wr => 26 - natI (a'.tmps.getD 2 undef)) ?olStart ?olRound
  case' olStart => refine LoopI.mk rfl ?_
  case' olRound => (rintro ⟨t, ds⟩ wr ⟨hts, hrel⟩; dsimp only at hts hrel; rw [zqdd t ds hts])
  case olStart => exact ⟨rfl, rfl, rfl, 0, _, _, Nat.zero_le _, rfl, HT1.out⟩
  obtain ⟨e0, e1, hds, i, va, vb, hi, e2, hT⟩ := hrel
  subst hds
  rw [e0, e1, e2]
  clear e0 e1 e2 hts HT1
  have HT := hidep hT
  by_cases hil : i < 26
  · have hii : (i : Int) < 26 := by omega
    have hwc : IntKind.i64.wrap (97 + (i : Int)) = 97 + (i : Int) := IntWalk.i64_in _ (by omega)
    have hw1 : IntKind.i64.wrap (1 + (i : Int)) = 1 + (i : Int) := IntWalk.i64_in _ (by omega)
    have hu97 : IntKind.u8.wrap (97 + (i : Int)) = 97 + (i : Int) := by show (97 + (i : Int)) % 256 = _; omega
    have hu1 : IntKind.u8.wrap (1 + (i : Int)) = 1 + (i : Int) := by show (1 + (i : Int)) % 256 = _; omega
    have hwi : IntKind.i64.wrap ((i : Int) + 1) = (i : Int) + 1 := IntWalk.i64_in _ (by omega)
    have hcv := conv1 (97 + (i : Int)) (lttB i) (zq4a i) (wr.alloc (.cells #[.int .u8 (97 + (i : Int))] 5)) wr.heap.size (zq5 (heap_alloc_new _ _))
    clear hT
    go_upto_region 6 with (fail)
    obtain ⟨g, hg⟩ : ∃ g, g = wr.heap.size + 1 := ⟨_, rfl⟩
    have h3 := heap3 wr (.cells #[.int .u8 (97 + (i : Int))] 5) (.cells #[.int .u8 (1 + (i : Int))] 5) (.cells #[.string (lttB i), .int .i64 0, .slice (some ⟨wr.heap.size + 1, 0, none⟩) 1 1] 59)
    have hbA : Below wr.heap.size wr (((wr.alloc (.cells #[.int .u8 (97 + (i : Int))] 5)).alloc (.cells #[.int .u8 (1 + (i : Int))] 5)).alloc (.cells #[.string (lttB i), .int .i64 0, .slice (some ⟨wr.heap.size + 1, 0, none⟩) 1 1] 59)) := ((Below.refl _ _).alloc (Nat.le_refl _) _ |>.alloc (by rw [World.size_alloc]; omega) _).alloc (by rw [World.size_alloc, World.size_alloc]; omega) _
    refine zq9 (fun X => Below wr.heap.size wr X /\ X.heap[g + 1]? = some (.cells #[.string (lttB i), .int .i64 0, .slice (some ⟨g, 0, none⟩) 1 1] 59) /\ ByT X (.slice (some ⟨g, 0, none⟩) 1 1) [1 + (i : Int)]) ⟨hbA, by rw [hg]; exact h3.2.2, by rw [hg]; exact zq6b [1 + (i : Int)] h3.2.1 (by simp) (by simp; omega)⟩ ?_
    clear h3 hbA
    rintro X2 ⟨hb2, hq2, hy2⟩
    rw [show wr.heap.size + 2 = g + 1 from by rw [hg], show wr.heap.size + 1 = g from by rw [hg]]
    have HY := hidep (And.intro hy2 hq2)
    have hT2 := HT.out.below hb2
    have HT2 := hidep hT2
    obtain ⟨f0, f1, _⟩ := tb7 hT2.box
    obtain ⟨r0, r1, r2⟩ := zq27 hq2
    obtain ⟨usA, huA, howA, hcA⟩ := hT2.ra
    have HA := hidep (And.intro huA (And.intro howA hcA))
    obtain ⟨aa, ac, rfl, _, _⟩ := (Rd.of_own howA).form
    have hlen : (zq21.take i).length = i := by simp [zq21]; omega
    rw [hlen] at howA f0 HT2 HT
    have HG := hidep (show wr.heap.size < g + 1 from by omega)
    clear hg hb2 hq2 hy2 hT2 huA hcA hcv
    have hbl : Below X2.heap.size X2 (X2.alloc (.cells #[.string (lttB i), .int .i64 0, .slice (some ⟨g, 0, none⟩) 1 1] 59)) := (Below.refl _ _).alloc (Nat.le_refl _) _
    have HBL := hidep hbl
    have hX0 : X0.heap.size <= X2.heap.size := HT2.out.low.size
    have hlb := lt_of_block HT2.out.box
    clear hbl
    go_upto_region 7 with (at_builtin; go_loud (refine zq4 _ rfl _ _ rfl zq36 X0.heap.size _ _ _ rfl (zq2 howA HBL.out) _ _ _ _ rfl (zq28 (heap_alloc_new _ _)) (by intro u hu; simp at hu; rcases hu with rfl | rfl | rfl <;> rfl) (by unfold maxLen; omega) (by omega) (by rw [World.size_alloc]; omega) ?_; intro v7 w7 ho7 hg7 hown7 hnl7; clear hnl7; have hb7 := (Keeps.grown (T := fun t => t ≠ 59) (zq2 howA HBL.out) hg7 (fun _ h => h)).2 _ _ _ _ (by decide) (zq0 HBL.out HT2.out.box); have hc7 := (tb7 hb7).1; have hf7 : w7.frozen? ⟨Tb, 0, none⟩ = false := zq1 hb7 0; clear hb7; obtain ⟨a7, c7, rfl, _, _⟩ := (Rd.of_own ho7).form))
    have hr7 : RulesT X0.heap.size w7 _ (zq21.take i ++ [smB i]) := zq7a (us2 := [.slice (some ⟨g, 0, none⟩) 1 1]) HA.out.1 (fun j h h' => (HA.out.2.2 j h h').below HBL.out) rfl (fun j h h' => by
        have : j = 0 := by simp at h; omega
        subst this
        have := HY.out.1.below HBL.out
        simpa [smB] using this) (by rw [hlen]; exact zq2 howA HBL.out) (by exact hg7) (by rw [hlen]; exact ho7)
    have hTA := (HT2.out.below HBL.out).pushA hr7 (by exact hg7) (by exact hown7)
    have hne7 : ∀ x, (Value.slice aa i ac).ownBlock = some x -> x < wr.heap.size := fun x e => by
      obtain ⟨xs, hx⟩ := HT.out.ra.own
      exact (hx.lt x e).2
    have hq7 : w7.heap[g + 1]? = some (.cells #[.string (lttB i), .int .i64 0, .slice (some ⟨g, 0, none⟩) 1 1] 59) :=
      (hg7.block (g + 1) (lt_of_block (zq0 HBL.out HY.out.2)) (fun e => by have := hne7 (g + 1) e.symm; have := HG.out; omega)).trans (zq0 HBL.out HY.out.2)
    have hy7 : ByT w7 (.slice (some ⟨g, 0, none⟩) 1 1) [1 + (i : Int)] := (HY.out.1.below HBL.out).keeps (T := fun t => t ≠ 59) (Keeps.grown (zq2 howA HBL.out) hg7 (fun _ h => h)) (by decide)
    have hTbg : g + 1 ≠ Tb := by have := lt_of_block HT.out.box; have := HG.out; omega
    have hS7 : Turned (fun b => b = Tb) w7 (w7.setCell ⟨Tb, 0, none⟩ (.slice a7 (i + 1) c7)) := (Turned.refl _ _).setCell ⟨Tb, 0, none⟩ _ (.inr rfl)
    have hb7 := (Keeps.grown (T := fun t => t ≠ 59) (zq2 howA HBL.out) hg7 (fun _ h => h)).2 _ _ _ _ (by decide) (zq0 HBL.out HT2.out.box)
    have hq3 := hS7.cells hq7 hTbg
    have hy3 := hy7.keeps (T := fun t => t ≠ 29) (Keeps.setCell (a := ⟨Tb, 0, none⟩) hb7 (fun t ht => ht) (.slice a7 (i + 1) c7)) (by decide)
    have hvb : ∀ x, vb.ownBlock = some x -> x < wr.heap.size := fun x e => by
      obtain ⟨xs, hx⟩ := HT.out.rb.own
      exact (hx.lt x e).2
    have HVB := hidep (And.intro hvb hTbg)
    refine zq9 (fun X => TbS X0 Tb (.slice a7 (i + 1) c7) vb (.slice none 0 0) (.slice none 0 0) (.slice none 0 0) (.slice none 0 0) (.slice none 0 0) (zq21.take i ++ [smB i]) (zq21.take i) X /\ X.heap[g + 1]? = some (.cells #[.string (lttB i), .int .i64 0, .slice (some ⟨g, 0, none⟩) 1 1] 59) /\ ByT X (.slice (some ⟨g, 0, none⟩) 1 1) [1 + (i : Int)]) ⟨hTA, hq3, hy3⟩ ?_
    clear hne7 hq7 hy7 hTbg hS7 hb7 hq3 hy3 hvb hTA hr7 ho7 hg7 hown7 hc7 hf7 howA f0 f1 r0 r1 r2 hlb hX0
    rintro X3 ⟨hT3, hq3, hy3⟩
    have HT3 := hidep hT3
    have HY3 := hidep (And.intro hq3 hy3)
    obtain ⟨f0, f1, _⟩ := tb7 hT3.box
    obtain ⟨r0, r1, r2⟩ := zq27 hq3
    obtain ⟨usB, huB, howB, hcB⟩ := hT3.rb
    have HB := hidep (And.intro huB hcB)
    obtain ⟨ba, bc, rfl, _, _⟩ := (Rd.of_own howB).form
    rw [hlen] at howB f1 HT3
    have hbl : Below X3.heap.size X3 (X3.alloc (.cells #[.string (lttB i), .int .i64 0, .slice (some ⟨g, 0, none⟩) 1 1] 59)) := (Below.refl _ _).alloc (Nat.le_refl _) _
    have HBL3 := hidep hbl
    have hX0 : X0.heap.size <= X3.heap.size := HT3.out.low.size
    have hlb := lt_of_block HT3.out.box
    clear hbl hT3 hq3 hy3 huB hcB
    go_upto_region 4 with (at_builtin; go_loud (refine zq4 _ rfl _ _ rfl zq36 X0.heap.size _ _ _ rfl (zq2 howB HBL3.out) _ _ _ _ rfl (zq28 (heap_alloc_new _ _)) (by intro u hu; simp at hu; rcases hu with rfl | rfl | rfl <;> rfl) (by unfold maxLen; omega) (by omega) (by rw [World.size_alloc]; omega) ?_; intro v8 w8 ho8 hg8 hown8 hnl8; clear hnl8; have hb8 := (Keeps.grown (T := fun t => t ≠ 59) (zq2 howB HBL3.out) hg8 (fun _ h => h)).2 _ _ _ _ (by decide) (zq0 HBL3.out HT3.out.box); have hc8 := (tb7 hb8).2.1; have hf8 : w8.frozen? ⟨Tb, 1, none⟩ = false := zq1 hb8 1; clear hb8; obtain ⟨a8, c8, rfl, _, _⟩ := (Rd.of_own ho8).form))
    have hr8 : RulesT X0.heap.size w8 _ (zq21.take i ++ [smB i]) := zq7a (us2 := [.slice (some ⟨g, 0, none⟩) 1 1]) HB.out.1 (fun j h h' => (HB.out.2 j h h').below HBL3.out) rfl (fun j h h' => by
        have : j = 0 := by simp at h; omega
        subst this
        have := HY3.out.2.below HBL3.out
        simpa [smB] using this) (by rw [hlen]; exact zq2 howB HBL3.out) (by exact hg8) (by rw [hlen]; exact ho8)
    have hTB := (HT3.out.below HBL3.out).pushB hr8 (by exact hg8) (by exact hown8)
    rw [<- smBase_take hil] at hTB
    have HTB := hidep hTB
    clear hTB hr8 ho8 hg8 hown8 howB
    go_wp2
    refine ⟨LoopI.mk rfl ⟨rfl, rfl, rfl, i + 1, _, _, by omega, by show Value.int _ _ = _; go_num, HTB.out⟩, ?_⟩
    show 26 - _ < 26 - _
    simp [natI]; omega
  · have hie : i = 26 := by omega
    have hii : ¬ (i : Int) < 26 := by omega
    have hfull : zq21.take i = zq21 := by rw [hie]; rfl
    rw [hfull] at HT
    clear hie hfull hT hi hil
    obtain ⟨f0, _⟩ := tb7 HT.out.box
    obtain ⟨usA, huA, howA, hcA⟩ := HT.out.ra
    have HA := hidep (And.intro huA hcA)
    obtain ⟨aa, ac, rfl, _, _⟩ := (Rd.of_own howA).form
    have hlen : zq21.length = 26 := rfl
    rw [hlen] at howA f0 HT
    have hb5 : Below wr.heap.size wr (((((wr.alloc (.cells #[.int .u8 30] 5)).alloc (.cells #[.int .u8 31] 5)).alloc (.cells #[.int .u8 32] 5)).alloc (.cells #[.int .u8 33] 5)).alloc (.cells #[.string tAn, .int .i64 0, .slice (some ⟨wr.heap.size, 0, none⟩) 1 1, .string tAn, .int .i64 1, .slice (some ⟨wr.heap.size + 1, 0, none⟩) 1 1, .string tN, .int .i64 3, .slice (some ⟨wr.heap.size + 2, 0, none⟩) 1 1, .string tDot, .int .i64 0, .slice (some ⟨wr.heap.size + 3, 0, none⟩) 1 1] 59)) := by
      refine (((((Below.refl _ _).alloc (Nat.le_refl _) _).alloc ?_ _).alloc ?_ _).alloc ?_ _).alloc ?_ _ <;> simp <;> omega
    have HB5 := hidep hb5
    have hrd := zq8a (k := 3) (n := 4) (heap_alloc_new ((((wr.alloc (.cells #[.int .u8 30] 5)).alloc (.cells #[.int .u8 31] 5)).alloc (.cells #[.int .u8 32] 5)).alloc (.cells #[.int .u8 33] 5)) (.cells #[.string tAn, .int .i64 0, .slice (some ⟨wr.heap.size, 0, none⟩) 1 1, .string tAn, .int .i64 1, .slice (some ⟨wr.heap.size + 1, 0, none⟩) 1 1, .string tN, .int .i64 3, .slice (some ⟨wr.heap.size + 2, 0, none⟩) 1 1, .string tDot, .int .i64 0, .slice (some ⟨wr.heap.size + 3, 0, none⟩) 1 1] 59)) rfl (by decide)
    rw [show (((((wr.alloc (.cells #[.int .u8 30] 5)).alloc (.cells #[.int .u8 31] 5)).alloc (.cells #[.int .u8 32] 5)).alloc (.cells #[.int .u8 33] 5))).heap.size = wr.heap.size + 4 from by simp] at hrd
    have HRD := hidep hrd
    clear hrd
    clear hb5 huA hcA
    have hX0 : X0.heap.size <= wr.heap.size := HT.out.low.size
    go_upto_region 9 with (at_builtin; go_loud (refine zq4 _ rfl _ _ rfl zq36 X0.heap.size _ _ _ rfl (zq2 howA HB5.out) _ _ _ _ rfl HRD.out (by intro u hu; simp at hu; (repeat' (rcases hu with hu | hu)) <;> (first | rfl | (subst hu; rfl))) (by unfold maxLen; omega) (by omega) (by simp; omega) ?_; intro v7 w7 ho7 hg7 hown7 hnl7; clear hnl7; have hb7 := (Keeps.grown (T := fun t => t ≠ 59) (zq2 howA HB5.out) hg7 (fun _ h => h)).2 _ _ _ _ (by decide) (zq0 HB5.out HT.out.box); have hc7 := (tb7 hb7).1; have hf7 : w7.frozen? ⟨Tb, 0, none⟩ = false := zq1 hb7 0; clear hb7; obtain ⟨a7, c7, rfl, _, _⟩ := (Rd.of_own ho7).form))
    have hby : ∀ (k : Nat) (c : Int), 1 <= c /\ c <= 63 -> ∀ W : World, W.heap[wr.heap.size + k]? = some (.cells #[.int .u8 c] 5) -> ByT W (.slice (some ⟨wr.heap.size + k, 0, none⟩) 1 1) [c] := fun k c hc W h => zq6b [c] h (by simp) (by simpa using hc)
    have hr7 : RulesT X0.heap.size w7 _ (zq21 ++ zq6f) := zq7a (us2 := [.slice (some ⟨wr.heap.size, 0, none⟩) 1 1, .slice (some ⟨wr.heap.size + 1, 0, none⟩) 1 1, .slice (some ⟨wr.heap.size + 2, 0, none⟩) 1 1, .slice (some ⟨wr.heap.size + 3, 0, none⟩) 1 1]) HA.out.1 (fun j h h' => (HA.out.2 j h h').below HB5.out) rfl (fun j h h' => by
        have h4 : j = 0 \/ j = 1 \/ j = 2 \/ j = 3 := by simp [zq6f] at h; omega
        rcases h4 with rfl | rfl | rfl | rfl
        · exact hby 0 30 (by decide) _ (zqa6 wr _ _ _ _ _).1
        · exact hby 1 31 (by decide) _ (zqa6 wr _ _ _ _ _).2.1
        · exact hby 2 32 (by decide) _ (zqa6 wr _ _ _ _ _).2.2.1
        · exact hby 3 33 (by decide) _ (zqa6 wr _ _ _ _ _).2.2.2) (zq2 howA HB5.out) (by exact hg7) (by exact ho7)
    have hTA := (HT.out.below HB5.out).pushA hr7 (by exact hg7) (by exact hown7)
    refine zq9 (fun X => TbS X0 Tb (.slice a7 30 c7) vb (.slice none 0 0) (.slice none 0 0) (.slice none 0 0) (.slice none 0 0) (.slice none 0 0) (zq21 ++ zq6f) zq21 X) hTA ?_
    clear hby hTA hr7 ho7 hg7 hown7 hc7 hf7 howA f0 hX0
    intro X8 hT8
    have HT8 := hidep hT8
    obtain ⟨_, _, f2, f3, f4, f5, f6⟩ := tb7 hT8.box
    have g2 : X8.frozen? ⟨Tb, 2, none⟩ = false := zq1 HT8.out.box 2
    have hlt := lt_of_block HT8.out.box
    have hfd := HT8.out.field 2 [41, 42, 43, 44, 45, 46, 47, 48, 49, 50] (by simp) (by decide) rfl
    clear hT8
    go_upto_region 10 with (fail)
    obtain ⟨gd, hgd⟩ : ∃ g, g = X8.heap.size := ⟨_, rfl⟩
    rw [<- hgd] at hfd ⊢
    refine zq9 (fun X => TbS X0 Tb (.slice a7 30 c7) vb (.slice (some ⟨gd, 0, none⟩) 10 10) (.slice none 0 0) (.slice none 0 0) (.slice none 0 0) (.slice none 0 0) (zq21 ++ zq6f) zq21 X /\ ByT X (.slice (some ⟨gd, 0, none⟩) 10 10) [41, 42, 43, 44, 45, 46, 47, 48, 49, 50]) ⟨hfd.1, hfd.2.1⟩ ?_
    intro Y0 hY0
    have HY0 := hidep hY0
    clear hY0 hfd hgd hlt g2 f2 f3 f4 f5 f6
    obtain ⟨_, _, f2, f3, f4, f5, f6⟩ := tb7 HY0.out.1.box
    have g3 : Y0.frozen? ⟨Tb, 3, none⟩ = false := zq1 HY0.out.1.box 3
    have hlt := lt_of_block HY0.out.1.box
    have hfd := HY0.out.1.field 3 [60] (by simp) (by decide) rfl
    skip
    go_upto_region 11 with (fail)
    obtain ⟨gc, hgc⟩ : ∃ g, g = Y0.heap.size := ⟨_, rfl⟩
    rw [<- hgc] at hfd ⊢
    refine zq9 (fun X => TbS X0 Tb (.slice a7 30 c7) vb (.slice (some ⟨gd, 0, none⟩) 10 10) (.slice (some ⟨gc, 0, none⟩) 1 1) (.slice none 0 0) (.slice none 0 0) (.slice none 0 0) (zq21 ++ zq6f) zq21 X /\ ByT X (.slice (some ⟨gd, 0, none⟩) 10 10) [41, 42, 43, 44, 45, 46, 47, 48, 49, 50] /\ ByT X (.slice (some ⟨gc, 0, none⟩) 1 1) [60]) ⟨hfd.1, (HY0.out.2).keeps hfd.2.2 (by decide) (T := fun t => t ≠ 29), hfd.2.1⟩ ?_
    intro Y1 hY1
    have HY1 := hidep hY1
    clear hY1 hfd hgc hlt g3 f2 f3 f4 f5 f6
    obtain ⟨_, _, f2, f3, f4, f5, f6⟩ := tb7 HY1.out.1.box
    have g4 : Y1.frozen? ⟨Tb, 4, none⟩ = false := zq1 HY1.out.1.box 4
    have hlt := lt_of_block HY1.out.1.box
    have hfd := HY1.out.1.field 4 [61] (by simp) (by decide) rfl
    skip
    go_upto_region 12 with (fail)
    obtain ⟨gn, hgn⟩ : ∃ g, g = Y1.heap.size := ⟨_, rfl⟩
    rw [<- hgn] at hfd ⊢
    refine zq9 (fun X => TbS X0 Tb (.slice a7 30 c7) vb (.slice (some ⟨gd, 0, none⟩) 10 10) (.slice (some ⟨gc, 0, none⟩) 1 1) (.slice (some ⟨gn, 0, none⟩) 1 1) (.slice none 0 0) (.slice none 0 0) (zq21 ++ zq6f) zq21 X /\ ByT X (.slice (some ⟨gd, 0, none⟩) 10 10) [41, 42, 43, 44, 45, 46, 47, 48, 49, 50] /\ ByT X (.slice (some ⟨gc, 0, none⟩) 1 1) [60] /\ ByT X (.slice (some ⟨gn, 0, none⟩) 1 1) [61]) ⟨hfd.1, (HY1.out.2.1).keeps hfd.2.2 (by decide) (T := fun t => t ≠ 29), (HY1.out.2.2).keeps hfd.2.2 (by decide) (T := fun t => t ≠ 29), hfd.2.1⟩ ?_
    intro Y2 hY2
    have HY2 := hidep hY2
    clear hY2 hfd hgn hlt g4 f2 f3 f4 f5 f6
    obtain ⟨_, _, f2, f3, f4, f5, f6⟩ := tb7 HY2.out.1.box
    have g5 : Y2.frozen? ⟨Tb, 5, none⟩ = false := zq1 HY2.out.1.box 5
    have hlt := lt_of_block HY2.out.1.box
    have hfd := HY2.out.1.field 5 [62] (by simp) (by decide) rfl
    skip
    go_upto_region 13 with (fail)
    obtain ⟨ge, hge⟩ : ∃ g, g = Y2.heap.size := ⟨_, rfl⟩
    rw [<- hge] at hfd ⊢
    refine zq9 (fun X => TbS X0 Tb (.slice a7 30 c7) vb (.slice (some ⟨gd, 0, none⟩) 10 10) (.slice (some ⟨gc, 0, none⟩) 1 1) (.slice (some ⟨gn, 0, none⟩) 1 1) (.slice (some ⟨ge, 0, none⟩) 1 1) (.slice none 0 0) (zq21 ++ zq6f) zq21 X /\ ByT X (.slice (some ⟨gd, 0, none⟩) 10 10) [41, 42, 43, 44, 45, 46, 47, 48, 49, 50] /\ ByT X (.slice (some ⟨gc, 0, none⟩) 1 1) [60] /\ ByT X (.slice (some ⟨gn, 0, none⟩) 1 1) [61] /\ ByT X (.slice (some ⟨ge, 0, none⟩) 1 1) [62]) ⟨hfd.1, (HY2.out.2.1).keeps hfd.2.2 (by decide) (T := fun t => t ≠ 29), (HY2.out.2.2.1).keeps hfd.2.2 (by decide) (T := fun t => t ≠ 29), (HY2.out.2.2.2).keeps hfd.2.2 (by decide) (T := fun t => t ≠ 29), hfd.2.1⟩ ?_
    intro Y3 hY3
    have HY3 := hidep hY3
    clear hY3 hfd hge hlt g5 f2 f3 f4 f5 f6
    obtain ⟨_, _, f2, f3, f4, f5, f6⟩ := tb7 HY3.out.1.box
    have g6 : Y3.frozen? ⟨Tb, 6, none⟩ = false := zq1 HY3.out.1.box 6
    have hlt := lt_of_block HY3.out.1.box
    have hfd := HY3.out.1.field 6 [63] (by simp) (by decide) rfl
    skip
    go_upto_region 14 with (fail)
    obtain ⟨gs, hgs⟩ : ∃ g, g = Y3.heap.size := ⟨_, rfl⟩
    rw [<- hgs] at hfd ⊢
    refine zq9 (fun X => TbS X0 Tb (.slice a7 30 c7) vb (.slice (some ⟨gd, 0, none⟩) 10 10) (.slice (some ⟨gc, 0, none⟩) 1 1) (.slice (some ⟨gn, 0, none⟩) 1 1) (.slice (some ⟨ge, 0, none⟩) 1 1) (.slice (some ⟨gs, 0, none⟩) 1 1) (zq21 ++ zq6f) zq21 X /\ ByT X (.slice (some ⟨gd, 0, none⟩) 10 10) [41, 42, 43, 44, 45, 46, 47, 48, 49, 50] /\ ByT X (.slice (some ⟨gc, 0, none⟩) 1 1) [60] /\ ByT X (.slice (some ⟨gn, 0, none⟩) 1 1) [61] /\ ByT X (.slice (some ⟨ge, 0, none⟩) 1 1) [62] /\ ByT X (.slice (some ⟨gs, 0, none⟩) 1 1) [63]) ⟨hfd.1, (HY3.out.2.1).keeps hfd.2.2 (by decide) (T := fun t => t ≠ 29), (HY3.out.2.2.1).keeps hfd.2.2 (by decide) (T := fun t => t ≠ 29), (HY3.out.2.2.2.1).keeps hfd.2.2 (by decide) (T := fun t => t ≠ 29), (HY3.out.2.2.2.2).keeps hfd.2.2 (by decide) (T := fun t => t ≠ 29), hfd.2.1⟩ ?_
    intro Y4 hY4
    have HY4 := hidep hY4
    clear hY4 hfd hgs hlt g6 f2 f3 f4 f5 f6
    obtain ⟨f0, f1, f2, f3, f4, f5, f6⟩ := tb7 HY4.out.1.box
    obtain ⟨xs, hx⟩ := HY4.out.1.rb.own
    obtain ⟨ba, bc, rfl, -, -⟩ := (Rd.of_own hx).form
    have hrb := zq0 (HY4.out.1.low) HX0.out.2.1
    obtain ⟨r0, r1, r2, r3, r4, r5, r6⟩ := tb7 hrb
    have z0 : Y4.frozen? ⟨Rb, 0, none⟩ = false := zq1 hrb 0
    have z1 : Y4.frozen? ⟨Rb, 1, none⟩ = false := zq1 hrb 1
    have z2 : Y4.frozen? ⟨Rb, 2, none⟩ = false := zq1 hrb 2
    have z3 : Y4.frozen? ⟨Rb, 3, none⟩ = false := zq1 hrb 3
    have z4 : Y4.frozen? ⟨Rb, 4, none⟩ = false := zq1 hrb 4
    have z5 : Y4.frozen? ⟨Rb, 5, none⟩ = false := zq1 hrb 5
    have z6 : Y4.frozen? ⟨Rb, 6, none⟩ = false := zq1 hrb 6
    have HRB := hidep hrb
    clear hx hrb
    go_wp2
    have hset := zq7d HRB.out (.slice a7 30 c7) (.slice ba 26 bc) (.slice (some ⟨gd, 0, none⟩) 10 10) (.slice (some ⟨gc, 0, none⟩) 1 1) (.slice (some ⟨gn, 0, none⟩) 1 1) (.slice (some ⟨ge, 0, none⟩) 1 1) (.slice (some ⟨gs, 0, none⟩) 1 1)
    have htu := zq65 Y4 Rb (.slice a7 30 c7) (.slice ba 26 bc) (.slice (some ⟨gd, 0, none⟩) 10 10) (.slice (some ⟨gc, 0, none⟩) 1 1) (.slice (some ⟨gn, 0, none⟩) 1 1) (.slice (some ⟨ge, 0, none⟩) 1 1) (.slice (some ⟨gs, 0, none⟩) 1 1)
    have hke := zq70 htu HRB.out
    have hlow : Below w.heap.size w Y4 := HX0.out.1.trans (HY4.out.1.low.mono HX0.out.1.size)
    unfold set7 at hset htu hke
    refine bodyPost_ret (zq44 rfl _ _ _ rfl (run_loadVar_row (P := Tryz.prog) _ Rb 29 29 _ _ _ hset zq39.1.choose_spec rfl zq39.2)) rfl ?_
    refine ⟨⟨_, _, _, _, _, _, _⟩, rfl, ⟨(HY4.out.1.ra.keeps hke (by decide) (by decide)).at, (HY4.out.1.rb.keeps hke (by decide) (by decide)).at, (HY4.out.2.1.keeps hke (by decide)).at, (HY4.out.2.2.1.keeps hke (by decide)).at, (HY4.out.2.2.2.1.keeps hke (by decide)).at, (HY4.out.2.2.2.2.1.keeps hke (by decide)).at, (HY4.out.2.2.2.2.2.keeps hke (by decide)).at⟩, zq19 hlow (Nat.le_refl _) htu (fun b hb => by rw [hb, HX0.out.2.2]; exact Nat.le_refl _)⟩
end Go.Proofs.YtcfjepcflanjbaaGreat
