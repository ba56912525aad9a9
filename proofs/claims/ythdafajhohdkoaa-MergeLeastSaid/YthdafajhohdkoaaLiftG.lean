/- Contract: the closure of the plan's choices: it goes over all alignments behind a place, by induction on the places that are left. -/
import Derived.Test.YthdafajhohdkoaaLiftF
import Derived.Test.YthdafajhohdkoaaOwnEE
import Derived.Test.YthdafajhohdkoaaSkip
namespace Go.Proofs.Ythdafajhohdkoaa
open Go.RowKit Go.Lab
def visitV (S : Nat) : Value := .func (.func 79) #[] #[.pointer (some ⟨S, 0, none⟩), .pointer (some ⟨S + 2, 0, none⟩), .pointer (some ⟨S + 3, 0, none⟩), .pointer (some ⟨S + 4, 0, none⟩), .pointer (some ⟨S + 1, 0, none⟩)]
/-- What the closure's variables hold, in five blocks from S on, and what lies behind them. -/
structure Inv (w0 : World) (S : Nat) (vp : Value) (many : Nat) (w : World) (outs : List (List Edit)) (ls : List (Nat × Nat)) : Prop where
  low : Below S w0 w
  plan : w.heap[S]? = some (.cells #[vp] 96 (0, 0))
  most : w.heap[S + 1]? = some (.cells #[.int .i64 many] 3 (0, 0))
  self : w.heap[S + 4]? = some (.cells #[visitV S] 110 (0, 0))
  out : ∃ vo, w.heap[S + 2]? = some (.cells #[vo] 28 (0, 0)) ∧ OwnEE w (S + 5) vo outs
  list : ∃ vl, w.heap[S + 3]? = some (.cells #[vl] 42 (0, 0)) ∧ w.ownsRow (S + 5) 45 2 vl ls.length (pairsC ls)
theorem Inv.lift {w0 w : World} {S many : Nat} {vp : Value} {outs : List (List Edit)} {ls : List (Nat × Nat)} (h : Inv w0 S vp many w outs ls) : S + 4 < w.heap.size := lt_of_block h.self
theorem Inv.size {w0 w : World} {S many : Nat} {vp : Value} {outs : List (List Edit)} {ls : List (Nat × Nat)} (h : Inv w0 S vp many w outs ls) : S + 5 ≤ w.heap.size := lt_of_block h.self
theorem hown_below {w w1 : World} {base : Nat} {e : TypeId} {k n : Nat} {v : Value} {xs : List Value} (h : w.ownsRow base e k v n xs) (hb : Below w.heap.size w w1) : w1.ownsRow base e k v n xs := by
  refine ⟨h.1, ?_⟩
  rcases h.2 with h2 | ⟨g, cap, cur, hv, hg, hh, r⟩
  · exact .inl h2
  · exact .inr ⟨g, cap, cur, hv, hg, (hb.block g (lt_of_block hh)).trans hh, r⟩
theorem heap_set_ne {w : World} {b : Nat} {u : Value} {k : Nat} (h : k ≠ b) : (w.setCell ⟨b, 0, none⟩ u).heap[k]? = w.heap[k]? := Below.heap_setCell _ _ _ _ h
/-- The list of answers is stored anew. -/
theorem Inv.outTo {w0 w w1 w2 : World} {S many : Nat} {vp vo v2 : Value} {outs o2 : List (List Edit)} {ls : List (Nat × Nat)} (hI : Inv w0 S vp many w outs ls) (hS : S = w0.heap.size)
    (hb : Below w.heap.size w w1) (hgr : w1.grownBy w2 vo.ownBlock) (hvo : w.heap[S + 2]? = some (.cells #[vo] 28 (0, 0))) (hown : OwnEE w (S + 5) vo outs) (ho2 : OwnEE w2 (S + 5) v2 o2) :
    Inv w0 S vp many (w2.setCell ⟨S + 2, 0, none⟩ v2) o2 ls := by
  have hsz := hI.size
  have hlt := hown.lt
  have hb2 : ∀ k, k < w.heap.size → vo.ownBlock ≠ some k → w2.heap[k]? = w.heap[k]? := fun k hk hne => (hgr.block k (Nat.lt_of_lt_of_le hk hb.size) (fun e => hne e.symm)).trans (hb.block k hk)
  have hlo : ∀ k, k < S + 5 → vo.ownBlock ≠ some k := fun k hk e => by have := (hlt k e).1; omega
  have hs2 : w2.heap[S + 2]? = some (.cells #[vo] 28 (0, 0)) := (hb2 _ (by omega) (hlo _ (by omega))).trans hvo
  have hB2 : Below S w0 w2 := hI.low.trans ((hb.mono (by omega)).grown hgr (by have := hb.size; omega) (fun k hk => by have := (hlt k hk).1; omega))
  obtain ⟨vl, hvl, hlist⟩ := hI.list
  refine ⟨hB2.setCell (by simp) _, ?_, ?_, ?_, ⟨v2, one_setCell hs2, ?_⟩, ⟨vl, ?_, ?_⟩⟩
  · rw [heap_set_ne (by omega), hb2 _ (by omega) (hlo _ (by omega))]; exact hI.plan
  · rw [heap_set_ne (by omega), hb2 _ (by omega) (hlo _ (by omega))]; exact hI.most
  · rw [heap_set_ne (by omega), hb2 _ (by omega) (hlo _ (by omega))]; exact hI.self
  · have hk : Keeps (fun t => t ≠ 28) w2 (w2.setCell ⟨S + 2, 0, none⟩ v2) := Keeps.setCell (a := ⟨S + 2, 0, none⟩) hs2 (fun t ht => ht) _
    refine ho2.kept (hk.mono (by rintro t (rfl | rfl) <;> decide)) (fun g hg => heap_set_ne (fun e => ?_))
    subst e
    obtain ⟨us, _, ho, _⟩ := ho2
    have := (ho.lt _ hg).1
    omega
  · rw [heap_set_ne (by omega), hb2 _ (by omega) (hlo _ (by omega))]; exact hvl
  · refine ⟨hlist.1, ?_⟩
    rcases hlist.2 with h2 | ⟨g, cap, cur, hv, hg, hh, r⟩
    · exact .inl h2
    · refine .inr ⟨g, cap, cur, hv, hg, ?_, r⟩
      rw [heap_set_ne (by omega), hb2 g (lt_of_block hh) (fun e => ?_)]
      · exact hh
      · obtain ⟨us, _, ho, _⟩ := hown
        rcases ho.2 with ⟨h3, _⟩ | ⟨g2, _, _, hv2, _, hh2, _⟩
        · rw [h3] at e; simp [Value.ownBlock] at e
        · rw [hv2] at e
          simp [Value.ownBlock] at e
          subst e
          rw [hh] at hh2
          simp at hh2
/-- The list of pairs is stored anew. -/
theorem Inv.listTo {w0 w w1 w2 : World} {S many : Nat} {vp vl v2 : Value} {outs : List (List Edit)} {ls l2 : List (Nat × Nat)} (hI : Inv w0 S vp many w outs ls) (hS : S = w0.heap.size)
    (hb : Below w.heap.size w w1) (hgr : w1.grownBy w2 vl.ownBlock) (hvl : w.heap[S + 3]? = some (.cells #[vl] 42 (0, 0))) (hown : w.ownsRow (S + 5) 45 2 vl ls.length (pairsC ls)) (ho2 : w2.ownsRow (S + 5) 45 2 v2 l2.length (pairsC l2)) :
    Inv w0 S vp many (w2.setCell ⟨S + 3, 0, none⟩ v2) outs l2 := by
  have hsz := hI.size
  have hlt := hown.lt
  have hb2 : ∀ k, k < w.heap.size → vl.ownBlock ≠ some k → w2.heap[k]? = w.heap[k]? := fun k hk hne => (hgr.block k (Nat.lt_of_lt_of_le hk hb.size) (fun e => hne e.symm)).trans (hb.block k hk)
  have hlo : ∀ k, k < S + 5 → vl.ownBlock ≠ some k := fun k hk e => by have := (hlt k e).1; omega
  have hs2 : w2.heap[S + 3]? = some (.cells #[vl] 42 (0, 0)) := (hb2 _ (by omega) (hlo _ (by omega))).trans hvl
  have hB2 : Below S w0 w2 := hI.low.trans ((hb.mono (by omega)).grown hgr (by have := hb.size; omega) (fun k hk => by have := (hlt k hk).1; omega))
  obtain ⟨vo, hvo, ho⟩ := hI.out
  have hne : ∀ g, vo.ownBlock = some g → vl.ownBlock ≠ some g := fun g hg e => by
    obtain ⟨us, _, ho, _⟩ := ho
    rcases ho.2 with ⟨h3, _⟩ | ⟨g2, _, _, hv2, _, hh2, _⟩
    · rw [h3] at hg; simp [Value.ownBlock] at hg
    · rw [hv2] at hg
      simp [Value.ownBlock] at hg
      subst hg
      rcases hown.2 with ⟨h3, _⟩ | ⟨g3, _, _, hv3, _, hh3, _⟩
      · rw [h3] at e; simp [Value.ownBlock] at e
      · rw [hv3] at e
        simp [Value.ownBlock] at e
        subst e
        rw [hh2] at hh3
        simp at hh3
  have hk1 : Keeps (fun t => t ≠ 45) w w2 := (Keeps.below _ hb).trans (Keeps.grown (hown_below hown hb) hgr (fun t ht => ht))
  have hk2 : Keeps (fun t => t ≠ 42) w2 (w2.setCell ⟨S + 3, 0, none⟩ v2) := Keeps.setCell (a := ⟨S + 3, 0, none⟩) hs2 (fun t ht => ht) _
  refine ⟨hB2.setCell (by simp) _, ?_, ?_, ?_, ⟨vo, ?_, ?_⟩, ⟨v2, one_setCell hs2, ?_⟩⟩
  · rw [heap_set_ne (by omega), hb2 _ (by omega) (hlo _ (by omega))]; exact hI.plan
  · rw [heap_set_ne (by omega), hb2 _ (by omega) (hlo _ (by omega))]; exact hI.most
  · rw [heap_set_ne (by omega), hb2 _ (by omega) (hlo _ (by omega))]; exact hI.self
  · rw [heap_set_ne (by omega), hb2 _ (by omega) (hlo _ (by omega))]; exact hvo
  · refine ho.kept ((hk1.mono (by rintro t (rfl | rfl) <;> decide)).trans (hk2.mono (by rintro t (rfl | rfl) <;> decide))) (fun g hg => ?_)
    have hg5 := ho.lt g hg
    rw [heap_set_ne (by omega), hb2 _ hg5.2 (hne g hg)]
  · exact ownsRow_setCell_other ho2 (fun e => by have := (ho2.lt _ e).1; simp at this) _
set_option maxHeartbeats 4000000 in
set_option maxRecDepth 100000 in
theorem visit_none (a b : List Sym) (va vb vp : Value) (w0 : World) (S many : Nat) (hS : S = w0.heap.size) (hla : a.length ≤ 2048) (hlb : b.length ≤ 2048) (hm : many ≤ 64)
    (hp : PlanAt w0 vp va vb a b) (ha : SymsAt w0 va a) (hb : SymsAt w0 vb b) (f i k : Nat) (outs : List (List Edit)) (ls : List (Nat × Nat)) (w : World)
    (hi : i ≤ a.length) (hk : k ≤ b.length) (ho : outs.length < many) (hls : ls.length ≤ i) (hinc : ∀ p, incP a.length b.length i k p → incP a.length b.length 0 0 (ls ++ p)) (hI : Inv w0 S vp many w outs ls) (h0 : lcsM a b i k = 0) :
    Calls Try.prog 79 #[.int .i64 i, .int .i64 k, .pointer (some ⟨S, 0, none⟩), .pointer (some ⟨S + 2, 0, none⟩), .pointer (some ⟨S + 3, 0, none⟩), .pointer (some ⟨S + 4, 0, none⟩), .pointer (some ⟨S + 1, 0, none⟩)] w
      fun e w' => e = .returned (.tuple #[]) ∧ Inv w0 S vp many w' (outs ++ ((enumP a b f i k).take (many - outs.length)).map (fun p => editsZ a b (ls ++ p))) ls := by
  obtain ⟨RES, hRES⟩ : ∃ R, R = outs ++ ((enumP a b f i k).take (many - outs.length)).map (fun p => editsZ a b (ls ++ p)) := ⟨_, rfl⟩
  rw [← hRES]
  have HZ : Hid (RES = outs ++ [editsZ a b ls]) := hidep (by
    rw [hRES, enumP_zero h0, List.take_of_length_le (by simp; omega)]
    simp)
  clear hRES
  have hli : incP a.length b.length 0 0 ls := by simpa using hinc [] ⟨hi, hk⟩
  subst hS
  have hlow : Below w0.heap.size w0 w := hI.low
  have hpw := hp.below hlow
  have HPW := hidep hpw
  obtain ⟨pb, ob, rb, hvp, hpb, hO, hR⟩ := hpw
  subst hvp
  obtain ⟨vo, hvo, hown⟩ := hI.out
  obtain ⟨vl, hvl, hlist⟩ := hI.list
  have c0 := cell_of_one hI.plan
  have c2 := cell_of_one hvo
  have c3 := cell_of_one hvl
  have f2 := free_of_one hvo
  have cp2 : w.cell? ⟨pb, 2, none⟩ = some (.slice (some ⟨ob, 0, none⟩) (a.length + 1) (a.length + 1)) := by simp [World.cell?, hpb]
  have ho1 := hO.cell (i := i) (by omega)
  have hr1 := (hR i hi).cell (i := k) (by omega)
  rw [h0] at hr1
  have hI1 : (0 : Int) ≤ (i : Int) := by omega
  have hI2 : (i : Int) < (a.length : Int) + 1 := by omega
  have hI3 : (0 : Int) ≤ (k : Int) := by omega
  have hI4 : (k : Int) < (b.length : Int) + 1 := by omega
  have hPA : PairsAt w vl ls := Rd.of_own hlist
  have HE : Hid (∀ W, Below w.heap.size w W → Calls Try.prog 80 #[.pointer (some ⟨pb, 0, none⟩), vl] W fun e w' => ∃ a1 c1, e = .returned (.slice a1 (editsZ a b ls).length c1) ∧ EditsAt w' (.slice a1 (editsZ a b ls).length c1) (editsZ a b ls) ∧ Below w.heap.size w w' ∧ w'.cell? ⟨w0.heap.size + 2, 0, none⟩ = some vo ∧ w'.frozen? ⟨w0.heap.size + 2, 0, none⟩ = false) := hidep (fun W hW =>
    (planEdits_any a b ls _ va vb vl W hla hlb (by omega) hli (HPW.out.below hW) ((ha.below hlow).below hW) ((hb.below hlow).below hW) (hPA.below hW)).mono (fun e w' ⟨v', he, ho, hb⟩ => by
      have hb2 := hW.trans (hb.mono hW.size)
      obtain ⟨a1, c1, rfl, _, _⟩ := ho.form
      exact ⟨a1, c1, he, ho.rd, hb2, (hb2.cell (p := ⟨w0.heap.size + 2, 0, none⟩) (lt_of_block hvo)).trans c2, (hb2.frozen (p := ⟨w0.heap.size + 2, 0, none⟩) (lt_of_block hvo)).trans f2⟩))
  have hL1 : Hid (∀ w1 : World, Below w.heap.size w w1 → w1.cell? ⟨w0.heap.size + 2, 0, none⟩ = some vo → ∀ o : Obj, (w1.alloc o).cell? ⟨w0.heap.size + 2, 0, none⟩ = some vo) := hidep (fun w1 hb hc o => (((Below.refl w1.heap.size w1).alloc (Nat.le_refl _) o).cell (p := ⟨w0.heap.size + 2, 0, none⟩) (Nat.lt_of_lt_of_le (lt_of_block hvo) hb.size)).trans hc)
  go_enter Try.func79, Try.ntmps79
  go_step3
  go_upto_region 2 with (fail)
  have HOW := hidep hown
  obtain ⟨us, hul, huo, hus⟩ := hown
  obtain ⟨ao, co, rfl, hco, hco2⟩ := (Rd.of_own huo).form
  unfold maxLen at hco2
  go_region_law (first
    | (go_simp; go_at_call 80; refine (HE.out _ (by first | exact Below.refl _ _ | exact (Below.refl _ _).drew)).mono ?_; rintro e w1 ⟨a1, c1, rfl, hE1, hb1, hc2, hf2⟩; have hcx := (hL1.out w1 hb1 hc2); dsimp only)
    | (have hxa : Below w1.heap.size w1 (w1.alloc (.cells #[.slice a1 (editsZ a b ls).length c1] 25)) := (Below.refl _ _).alloc (Nat.le_refl _) _; obtain ⟨us2, hul2, huo2, hus2⟩ := HOW.out.below (hb1.alloc hb1.size (.cells #[.slice a1 (editsZ a b ls).length c1] 25)); have hfr := Rd.fresh w1 #[.slice a1 (editsZ a b ls).length c1] 25 1 1 rfl (by decide); refine step_append_rd _ (by rfl) (.tmp 24) (.tmp 28) (by rfl) slEditss (w0.heap.size + 5) (.slice ao outs.length co) _ _ (by rfl) (by exact huo2) _ _ _ _ (by rfl) (by exact hfr) (by intro u hu; simp at hu; subst hu; rfl) (by unfold maxLen; omega) (by omega) (by have := hb1.size; have := hI.lift; simp; omega) ?_; intro v2 w2 hown2 hgr2 hat hnl; clear hat hnl hfr; have hB1 := (hb1.block _ (lt_of_block hvo)).trans hvo; have hB2 := (hgr2.block _ (by have := lt_of_block hB1; simp; omega) (fun e => by have := (HOW.out.lt _ e.symm).1; omega)).trans ((hxa.block _ (lt_of_block hB1)).trans hB1); have hC2 := cell_of_one hB2; have hF2 := free_of_one hB2; obtain ⟨a2, cc, rfl, hcc, hcc2⟩ := (Rd.of_own hown2).form; dsimp only)
    | fail)
  all_goals
    have hsn := OwnEE.snoc hul2 huo2 hus2 (hE1.below hxa) hown2 hgr2
    have hIN := hI.outTo rfl (hb1.trans (hxa.mono hb1.size)) hgr2 hvo HOW.out hsn
    go_wp2
    refine bodyPost_ret (results_none rfl _ _ _) rfl ?_
    rw [HZ.out]
    exact ⟨rfl, hIN⟩
end Go.Proofs.Ythdafajhohdkoaa
