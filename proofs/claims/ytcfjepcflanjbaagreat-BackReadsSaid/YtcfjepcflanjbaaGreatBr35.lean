/- Contract: the code's texts: the first texts from each place on, from the end to the beginning. -/
import Derived.Test.YtcfjepcflanjbaaGreatBr02
import Derived.Test.YtcfjepcflanjbaaGreatBr28
import Derived.Test.YtcfjepcflanjbaaGreatBr30
import Derived.Test.YtcfjepcflanjbaaGreatBr31
import Derived.Test.YtcfjepcflanjbaaGreatBr34
namespace Go.Proofs.YtcfjepcflanjbaaGreat
open Go.RowKit Go.Lab Go.Shelf
set_option maxRecDepth 100000
/-! ### plain -/
theorem valid_len {T : TabZ} (hv : zq8 T = 0) : T.l0.length <= 96 /\ T.l1.length <= 96 := by
  unfold zq8 at hv
  split at hv
  · cases hv
  · omega
theorem ruleMv_len (T : TabZ) (p : PlZ) (r : RuleZ) : (zq18 T p r).length <= 2 := by
  unfold zq18
  split
  · split <;> simp
  · split <;> simp
theorem flatMap_len {α β : Type} (f : α -> List β) (c : Nat) (hf : ∀ x, (f x).length <= c) : ∀ l : List α, (l.flatMap f).length <= l.length * c
  | [] => by simp
  | a :: l => by
    have h1 := hf a
    have h2 := flatMap_len f c hf l
    rw [List.flatMap_cons, List.length_append, List.length_cons, Nat.succ_mul]
    omega
theorem movesZ_len {T : TabZ} (hv : zq8 T = 0) (p : PlZ) : (zqa T p).length <= 300 := by
  have h1 := valid_len hv
  have h2 := flatMap_len (zq18 T p) 2 (ruleMv_len T p) (T.rules p.st.lang)
  have h3 : (T.rules p.st.lang).length <= 96 := by
    unfold TabZ.rules
    split
    · exact h1.1
    · exact h1.2
  have h4 := (zq54 hv).1
  unfold zqa
  rw [List.length_append]
  have h5 : (if p.need = 2 then [] else zq26 T p ++ swMv T p).length <= 11 := by
    split
    · simp
    · rw [List.length_append, zq52, h4]
      unfold swMv
      split <;> simp
  omega
def rawTo (_T : TabZ) (C : List Int) (k : Nat) (p : PlZ) (G : TxG) (d : List MvZ) : List (List Sym) := raw0 C.length k p ++ d.flatMap (rawM C k p G)
theorem rawTo_len {T : TabZ} {C : List Int} {k : Nat} {p : PlZ} {G : TxG} {d : List MvZ} (hG : ∀ m ∈ d, begB (C.drop k) m.cells = true -> (G (k + m.cells.length) m.dst).length <= 100) (hd : d.length <= 300) : (rawTo T C k p G d).length <= 40000 := by
  have h0 : (raw0 C.length k p).length <= 1 := by unfold raw0; split <;> simp
  have h1 : ∀ d : List MvZ, (∀ m ∈ d, begB (C.drop k) m.cells = true -> (G (k + m.cells.length) m.dst).length <= 100) -> (d.flatMap (rawM C k p G)).length <= d.length * 100 := by
    intro d
    induction d with
    | nil => intro _; simp
    | cons m d ih =>
      intro h
      have h2 := ih (fun x hx => h x (by simp [hx]))
      have h3 : (rawM C k p G m).length <= 100 := by
        unfold rawM
        split
        · rename_i hb
          rw [List.length_map]
          exact h m (by simp) hb
        · simp
      rw [List.flatMap_cons, List.length_append, List.length_cons, Nat.succ_mul]
      omega
  have h2 := h1 d hG
  unfold rawTo
  rw [List.length_append]
  omega
def TxJ (w0 : World) (LB : Nat) (T : TabZ) (C : List Int) (k : Nat) (p : PlZ) (G : TxG) : Hold := fun d B W => ∃ v us, TxC w0 LB v us (rawTo T C k p G d) W /\ ∀ b, B b ↔ TxB LB v us b
theorem tx_taker (V : TabV) (T : TabZ) (cv : Value) (C : List Int) (w0 : World) (R Rb A Kb Mm LB Pb N : Nat) (g : Nat × PlZ -> Value) (p : PlZ) (k : Nat) (hv : zq8 T = 0) (hR : w0.heap[R]? = some (RdBox V cv)) (hRb : w0.heap[Rb]? = some (.cells #[.pointer (some ⟨R, 0, none⟩)] 117)) (hA : w0.heap[A]? = some (.cells #[.int .i64 (k : Nat)] 3))
    (hKb : w0.heap[Kb]? = some (.cells #[.map (some Mm)] 155)) (hMm : MapIs Tryz.prog 133 zq4d zq34 (.slice none 0 0) w0 Mm N g) (hPb : w0.heap[Pb]? = some (PlBox (k : Nat) p)) (hC : BysAt w0 cv C) (hCl : C.length <= 8192) (hk : k <= C.length) (hp : PlOk p)
    (G : TxG) (hG : ∀ m ∈ zqa T p, begB (C.drop k) m.cells = true -> SymssAt w0 (g (k + m.cells.length, m.dst)) (G (k + m.cells.length) m.dst) /\ (G (k + m.cells.length) m.dst).length <= 100 /\ ∀ x ∈ G (k + m.cells.length) m.dst, x.length <= 100000) :
    Taker w0 T p 105 #[.pointer (some ⟨Rb, 0, none⟩), .pointer (some ⟨A, 0, none⟩), .pointer (some ⟨Kb, 0, none⟩), .pointer (some ⟨LB, 0, none⟩), .pointer (some ⟨Pb, 0, none⟩)] (TxJ w0 LB T C k p G) where
  low := fun d B W h => by
    obtain ⟨v, us, h1, h2⟩ := h
    exact ⟨h1.low, fun b hb => h1.lt b ((h2 b).1 hb)⟩
  grow := fun d B N W W' h ht hN => by
    obtain ⟨v, us, h1, h2⟩ := h
    exact ⟨v, us, h1.turned ht (fun b hb => ⟨fun e => (hN b hb).1 ((h2 b).2 e), (hN b hb).2⟩), h2⟩
  ent := fun _ _ => rfl
  step := fun d m rest hm B W u h hu => by
    obtain ⟨v, us, h1, h2⟩ := h
    have hmem : m ∈ zqa T p := by rw [hm]; simp
    have hmm := zq2f hv hp hmem
    have hml := movesZ_len hv p
    rw [hm, List.length_append] at hml
    have hln := rawTo_len (T := T) (C := C) (k := k) (p := p) (G := G) (d := d) (fun x hx hb => (hG x (by rw [hm]; exact List.mem_append_left _ hx) hb).2.1) (by omega)
    refine (texts1_any V cv C w0 R Rb A Kb Mm LB Pb N g p k hR hRb hA hKb hMm hPb hC hCl hk v us _ W h1 (by omega) u m hu hmm.1 hmm.2.2.1 hmm.2.2.2 G (hG m hmem)).mono ?_
    rintro e W' ⟨rfl, v', us', g1, g2, g3⟩
    refine ⟨rfl, TxB LB v' us', ⟨v', us', ?_, fun _ => Iff.rfl⟩, g2.mono (fun x _ hx => (h2 x).2 hx), fun b hb hB => (h2 b).2 (g3 b hb hB)⟩
    have e1 : rawTo T C k p G (d ++ [m]) = rawTo T C k p G d ++ rawM C k p G m := by
      unfold rawTo
      rw [List.flatMap_append, List.flatMap_cons, List.flatMap_nil, List.append_nil, List.append_assoc]
    rw [e1]
    exact g1
theorem SymssAt.keeps {w w' : World} {T : TypeId -> Prop} {v : Value} {l : List (List Sym)} (h : SymssAt w v l) (hk : Keeps T w w') (h1 : T 31) (h2 : T 39) : SymssAt w' v l := by
  obtain ⟨us, hl, hr, hs⟩ := h
  exact ⟨us, hl, hr.keeps (hk.mono (fun t e => by subst e; exact h1)), fun i a b => (hs i a b).keeps hk h2⟩
theorem SymssAt.pre {w : World} {a : Option Addr} {c : Nat} {l : List (List Sym)} (h : SymssAt w (.slice a l.length c) l) {k : Nat} (hk : k <= l.length) : SymssAt w (.slice a k c) (l.take k) := by
  obtain ⟨us, hl, hr, hs⟩ := h
  have hl2 : (l.take k).length = k := by rw [List.length_take]; omega
  refine ⟨us.take k, by rw [List.length_take, List.length_take, hl], ?_, fun i a b => ?_⟩
  · rw [hl2]
    have := hr.pre hk
    rwa [Nat.mul_one] at this
  · rw [List.getElem_take, List.getElem_take]
    exact hs i (by rw [hl2] at a; omega) (by rw [hl2] at a; omega)
structure TxS (w : World) (T : TabZ) (C : List Int) (most R Rb Kb Mm Lb N : Nat) (g : Nat × PlZ -> Value) (D : Nat -> PlZ -> Prop) (Z : World) : Prop where
  low : Below w.heap.size w Z
  rb : Z.heap[Rb]? = some (.cells #[.pointer (some ⟨R, 0, none⟩)] 117)
  kb : Z.heap[Kb]? = some (.cells #[.map (some Mm)] 155)
  lv : PlssAt Z (.slice (some ⟨Lb, 0, none⟩) (C.length + 1) (C.length + 1)) C.length (liveZ T C)
  mp : MapIs Tryz.prog 133 zq4d zq34 (.slice none 0 0) Z Mm N g
  got : ∀ k p, D k p -> SymssAt Z (g (k, p)) (txtZ T C most k p)
theorem TxS.keeps {w : World} {T : TabZ} {C : List Int} {most R Rb Kb Mm Lb N N' : Nat} {g g' : Nat × PlZ -> Value} {D D' : Nat -> PlZ -> Prop} {Z Z' : World} (h : TxS w T C most R Rb Kb Mm Lb N g D Z) (hl : Below w.heap.size w Z') (hk : Keeps (fun t => t ≠ 3) Z Z') (hm : MapIs Tryz.prog 133 zq4d zq34 (.slice none 0 0) Z' Mm N' g')
    (hD : ∀ k p, D' k p -> (D k p /\ g' (k, p) = g (k, p)) \/ SymssAt Z (g' (k, p)) (txtZ T C most k p)) : TxS w T C most R Rb Kb Mm Lb N' g' D' Z' :=
  ⟨hl, hk.2 _ _ _ _ (by decide) h.rb, hk.2 _ _ _ _ (by decide) h.kb, h.lv.keeps hk, hm, fun k p hp => by
    rcases hD k p hp with ⟨h1, h2⟩ | h1
    · rw [h2]; exact (h.got k p h1).keeps hk (by decide) (by decide)
    · exact h1.keeps hk (by decide) (by decide)⟩
theorem TxS.below {w : World} {T : TabZ} {C : List Int} {most R Rb Kb Mm Lb N : Nat} {g : Nat × PlZ -> Value} {D : Nat -> PlZ -> Prop} {Z Z' : World} (h : TxS w T C most R Rb Kb Mm Lb N g D Z) (hb : Below Z.heap.size Z Z') : TxS w T C most R Rb Kb Mm Lb N g D Z' :=
  h.keeps (h.low.trans (hb.mono h.low.size)) (Keeps.below _ hb) (h.mp.below hb) (fun _ _ hp => .inl ⟨hp, rfl⟩)
theorem map_keeps {w w' : World} {b N : Nat} {g : Nat × PlZ -> Value} {T : TypeId -> Prop} (hm : MapIs Tryz.prog 133 zq4d zq34 (.slice none 0 0) w b N g) (hg : w.grownBy w' (some b)) : Keeps T w w' :=
  ((Turned.of_grown (T := fun x => x = b) hg rfl).keeps (fun x hx cur t fz => by subst hx; exact hm.no_cells cur t fz)).mono (fun _ _ => trivial)
def muA (v : Value) (w : World) : Nat :=
  match v with
  | .pointer (some ad) => (match w.cell? ad with | some (.int _ x) => (x + 1).toNat | _ => 0)
  | _ => 0
theorem muA_at {A : Nat} {W : World} {x : Int} (h : W.heap[A]? = some (.cells #[.int .i64 x] 3)) : muA (.pointer (some ⟨A, 0, none⟩)) W = (x + 1).toNat := by
  unfold muA
  simp [zq5 h]
theorem zq8b (t : Array Value) (ds : List Deferred) (h : t.size = 95) : ({ tmps := t, defers := ds } : Act) = { tmps := #[slot t 0, slot t 1, slot t 2, slot t 3, slot t 4, slot t 5, slot t 6, slot t 7, slot t 8, slot t 9, slot t 10, slot t 11, slot t 12, slot t 13, slot t 14, slot t 15, slot t 16, slot t 17, slot t 18, slot t 19, slot t 20, slot t 21, slot t 22, slot t 23, slot t 24, slot t 25, slot t 26, slot t 27, slot t 28, slot t 29, slot t 30, slot t 31, slot t 32, slot t 33, slot t 34, slot t 35, slot t 36, slot t 37, slot t 38, slot t 39, slot t 40, slot t 41, slot t 42, slot t 43, slot t 44, slot t 45, slot t 46, slot t 47, slot t 48, slot t 49, slot t 50, slot t 51, slot t 52, slot t 53, slot t 54, slot t 55, slot t 56, slot t 57, slot t 58, slot t 59, slot t 60, slot t 61, slot t 62, slot t 63, slot t 64, slot t 65, slot t 66, slot t 67, slot t 68, slot t 69, slot t 70, slot t 71, slot t 72, slot t 73, slot t 74, slot t 75, slot t 76, slot t 77, slot t 78, slot t 79, slot t 80, slot t 81, slot t 82, slot t 83, slot t 84, slot t 85, slot t 86, slot t 87, slot t 88, slot t 89, slot t 90, slot t 91, slot t 92, slot t 93, slot t 94], defers := ds } :=
  (congrArg (fun x => ({ tmps := x, defers := ds } : Act)) (zq1e h)).trans (by kernel_rfl)
def DonZ (T : TabZ) (C : List Int) (kk : Nat) (k : Nat) (p : PlZ) : Prop := kk <= k /\ k <= kk + 12 /\ k <= C.length /\ p ∈ (liveZ T C).getD k []
def VTo (w : World) (T : TabZ) (C : List Int) (most R Rb Kb Mm Lb : Nat) (av : Value) (wr : World) : Prop :=
  ∃ (kk A N : Nat) (g : Nat × PlZ -> Value), kk <= C.length + 1 /\ av = .pointer (some ⟨A, 0, none⟩) /\ wr.heap[A]? = some (.cells #[.int .i64 ((kk : Int) - 1)] 3) /\ w.heap.size <= A /\ N <= 48 * (C.length + 1 - kk) /\ TxS w T C most R Rb Kb Mm Lb N g (DonZ T C kk) wr
def VTi (w : World) (T : TabZ) (C : List Int) (most R Rb Kb Mm Lb A k N0 : Nat) (ps : List PlZ) (iv : Value) (wr : World) : Prop :=
  ∃ (i : Nat) (g : Nat × PlZ -> Value), i <= ps.length /\ iv = .int .i64 (i : Nat) /\ wr.heap[A]? = some (.cells #[.int .i64 (k : Nat)] 3) /\ TxS w T C most R Rb Kb Mm Lb (N0 + i) g (fun k' p => DonZ T C (k + 1) k' p \/ (k' = k /\ p ∈ ps.take i)) wr
def VTd (w : World) (T : TabZ) (C : List Int) (most R Rb Kb Mm Lb A k N0 : Nat) (qs : List PlZ) (iv : Value) (wr : World) : Prop :=
  ∃ (i : Nat) (g : Nat × PlZ -> Value), i <= qs.length /\ iv = .int .i64 (i : Nat) /\ wr.heap[A]? = some (.cells #[.int .i64 (k : Nat)] 3) /\ TxS w T C most R Rb Kb Mm Lb N0 g (DonZ T C k) wr
def TxM (w0 : World) (v1 v2 v5 v6 v7 v9 v10 v29 v30 v31 : Value) (tb : Bool) : Act -> World -> Prop := fun a W => a.tmps.size = 95 /\ a.defers = [] /\ slot a.tmps 1 = v1 /\ slot a.tmps 2 = v2 /\ slot a.tmps 5 = v5 /\ slot a.tmps 6 = v6 /\ slot a.tmps 7 = v7 /\ slot a.tmps 9 = v9 /\ slot a.tmps 10 = v10 /\ slot a.tmps 29 = v29 /\ slot a.tmps 30 = v30 /\ slot a.tmps 31 = v31 /\ slot a.tmps 51 = .bool tb /\ Below w0.heap.size w0 W
def TxN (w0 : World) (LB : Nat) (L : List (List Sym)) (v1 v2 v5 v6 v7 v9 v10 v29 v30 v31 : Value) : Act -> World -> Prop := fun a W => a.tmps.size = 95 /\ a.defers = [] /\ slot a.tmps 1 = v1 /\ slot a.tmps 2 = v2 /\ slot a.tmps 5 = v5 /\ slot a.tmps 6 = v6 /\ slot a.tmps 7 = v7 /\ slot a.tmps 9 = v9 /\ slot a.tmps 10 = v10 /\ slot a.tmps 29 = v29 /\ slot a.tmps 30 = v30 /\ slot a.tmps 31 = v31 /\ ∃ v us, TxC w0 LB v us L W
def TxQ (w : World) (T : TabZ) (C : List Int) (most R Rb Kb Mm Lb N k A : Nat) (v1 v2 v5 v6 : Value) : Act -> World -> Prop := fun a W => a.tmps.size = 95 /\ a.defers = [] /\ slot a.tmps 1 = v1 /\ slot a.tmps 2 = v2 /\ slot a.tmps 5 = v5 /\ slot a.tmps 6 = v6 /\ slot a.tmps 7 = .pointer (some ⟨A, 0, none⟩) /\ ∃ g, TxS w T C most R Rb Kb Mm Lb N g (DonZ T C k) W /\ W.heap[A]? = some (.cells #[.int .i64 (k : Nat)] 3)
set_option maxHeartbeats 8000000 in
theorem texts_any (V : TabV) (T : TabZ) (cv : Value) (C : List Int) (R most : Nat) (w : World) (hT : TabIn w V T) (hok : TabOk T) (hv : zq8 T = 0) (hR : w.heap[R]? = some (RdBox V cv)) (hC : BysAt w cv C) (hCl : C.length <= 8192) (hmost : most <= 64) :
    Calls Tryz.prog 67 #[.pointer (some ⟨R, 0, none⟩), .int .i64 (most : Nat)] w fun e w' => ∃ v, e = .returned v /\ SymssAt w' v (txtZ T C most 0 pl0) /\ Below w.heap.size w w' := by
  obtain ⟨ca, cc, rfl, hcc, hcm⟩ := hC.1.form
  unfold maxLen at hcm
  have HR := hidep hR
  have HC := hidep hC
  have HT := hidep (And.intro hT (And.intro hok hv))
  obtain ⟨n, hn⟩ : ∃ n, n = C.length := ⟨_, rfl⟩
  have HN := hidep hn
  have HCL := hidep hCl
  rw [<- hn] at hCl hcc
  have hmm := @run_makeMap Tryz.prog
  clear hR hC hT hok hv hn
  go_enter Tryz.func67, Tryz.ntmps67
  go_upto_region 1 with (fail)
  obtain ⟨Rb, hRb⟩ : ∃ B, B = w.heap.size := ⟨_, rfl⟩
  refine zq9 (fun X => Below w.heap.size w X /\ X.heap[Rb]? = some (.cells #[.pointer (some ⟨R, 0, none⟩)] 117)) ⟨(Below.refl _ _).alloc (Nat.le_refl _) _, by rw [hRb]; exact heap_alloc_new _ _⟩ ?_
  rintro X0 ⟨hb0, hr0⟩
  rw [<- hRb]
  have HB0 := hidep (And.intro hb0 (And.intro hr0 hRb))
  have hrc := zq5 hr0
  have HLV := hidep (live_any V T (.slice ca C.length cc) C R X0 (HT.out.1.below hb0) HT.out.2.1 HT.out.2.2 (zq0 hb0 HR.out) (HC.out.below hb0) HCL.out)
  clear hb0 hr0 hRb
  go_upto_region 2 with (go_at_call 78; refine HLV.out.mono ?_; rintro e w1 ⟨v1, rfl, hpl, hb1⟩; rw [<- HN.out] at hpl; obtain ⟨vs1, Lb, rfl, hpl2⟩ := hpl)
  have HPL := hidep (show PlssAt w1 (.slice (some ⟨Lb, 0, none⟩) (n + 1) (n + 1)) n (liveZ T C) from ⟨vs1, Lb, rfl, hpl2⟩)
  have HB1 := hidep hb1
  clear hpl2 hb1 hrc
  go_upto_region 3 with (fail)
  obtain ⟨Mm, hMm⟩ : ∃ B, B = w1.heap.size := ⟨_, rfl⟩
  have hlow1 : Below w.heap.size w w1 := HB0.out.1.trans (HB1.out.mono HB0.out.1.size)
  refine zq9 (fun X => TxS w T C most R Rb (Mm + 1) Mm Lb 0 (fun _ => .slice none 0 0) (DonZ T C (n + 1)) X /\ Below w1.heap.size w1 X) ⟨⟨(hlow1.alloc hlow1.size _).alloc (by rw [World.size_alloc]; have := hlow1.size; omega) _, ?_, ?_, ?_, ?_, fun k p hp => by
      have h1 := hp.1
      have h2 := hp.2.2.1
      rw [HN.out] at h1
      omega⟩, ((Below.refl _ _).alloc (Nat.le_refl _) _).alloc (by rw [World.size_alloc]; omega) _⟩ ?_
  · exact zq0 (((Below.refl _ _).alloc (Nat.le_refl _) _).alloc (by rw [World.size_alloc]; omega) _) (zq0 HB1.out HB0.out.2.1)
  · rw [hMm]
    exact (heap2 _ _ _).2
  · rw [<- HN.out]
    exact HPL.out.keeps (Keeps.below _ (((Below.refl _ _).alloc (Nat.le_refl _) _).alloc (by rw [World.size_alloc]; omega) _))
  · rw [hMm]
    exact (MapIs.made w1).below ((Below.refl _ _).alloc (Nat.le_refl _) _)
  rintro X2 ⟨hS2, hb2⟩
  have HS2 := hidep (And.intro hS2 hb2)
  have hRb2 := zq5 hS2.rb
  have h7 : X2.cell? ⟨R, 7, none⟩ = some (.slice ca n cc) := by
    rw [HN.out]
    exact (rd8 (zq0 hS2.low HR.out)).2.2.2.2.2.2.2
  rw [show w1.heap.size + 1 = Mm + 1 from by rw [hMm]]
  have hKw : w.heap.size <= Mm := by rw [hMm]; exact hlow1.size
  have HKW := hidep hKw
  clear hMm hlow1 hS2 hb2 hKw hmm
  go_upto_region 4 with (fail)
  obtain ⟨A0, hA0⟩ : ∃ B, B = X2.heap.size := ⟨_, rfl⟩
  refine zq9 (fun X => Below X2.heap.size X2 X /\ X.heap[A0]? = some (.cells #[.int .i64 (n : Nat)] 3)) ⟨(Below.refl _ _).alloc (Nat.le_refl _) _, by rw [hA0]; exact heap_alloc_new _ _⟩ ?_
  rintro X3 ⟨hb3, ha3⟩
  rw [<- hA0]
  have hA0w : w.heap.size <= A0 := by rw [hA0]; exact HS2.out.1.low.size
  have HST := hidep (show VTo w T C most R Rb (Mm + 1) Mm Lb (.pointer (some ⟨A0, 0, none⟩)) X3 from ⟨n + 1, A0, 0, _, by rw [<- HN.out]; exact Nat.le_refl _, rfl, by rw [show (((n + 1 : Nat) : Int) - 1) = (n : Int) from by omega]; exact ha3, hA0w, Nat.zero_le _, HS2.out.1.below hb3⟩)
  clear hA0 hb3 ha3 hA0w hRb2 h7
  obtain ⟨Kb, hKb⟩ : ∃ x, x = Mm + 1 := ⟨_, rfl⟩
  rw [<- hKb] at HST ⊢
  clear hKb HS2
  refine wp_loop (LoopI 95 (fun tm ds wr => (slot tm 1) = .int .i64 (most : Nat) /\ (slot tm 2) = .pointer (some ⟨Rb, 0, none⟩) /\ (slot tm 5) = .slice (some ⟨Lb, 0, none⟩) (n + 1) (n + 1) /\ (slot tm 6) = .pointer (some ⟨Kb, 0, none⟩) /\ ds = [] /\ VTo w T C most R Rb Kb Mm Lb (slot tm 7) wr)) (fun a' wr => muA (a'.tmps.getD 7 undef) wr) ?olStart ?olRound
  case' olStart => refine LoopI.mk rfl ?_
  case' olRound => (rintro ⟨t, ds⟩ wr ⟨hts, hrel⟩; dsimp only at hts hrel; rw [zq8b t ds hts])
  case olStart => exact ⟨rfl, rfl, rfl, rfl, rfl, HST.out⟩
  clear HST
  obtain ⟨e1, e2, e5, e6, hds, kk, A, N, g, hkk, e7, hA, hAw, hNN, hS⟩ := hrel
  subst hds
  rw [e1, e2, e5, e6, e7]
  clear e1 e2 e5 e6 e7 hts
  have HS := hidep (And.intro hS hA)
  have hac := zq5 hA
  have HAW := hidep (And.intro hAw (And.intro hkk hNN))
  clear hS hA
  by_cases hk1 : 1 <= kk
  · obtain ⟨k, rfl⟩ : ∃ k, kk = k + 1 := ⟨kk - 1, by omega⟩
    have hkn : k < n + 1 := by have := HN.out; omega
    have hkz : (((k + 1 : Nat) : Int) - 1) = (k : Nat) := by omega
    rw [hkz] at hac
    have HSA := hidep (show wr.heap[A]? = some (.cells #[.int .i64 (k : Nat)] 3) from by rw [<- hkz]; exact HS.out.2)
    have hk0 : (0 : Int) <= (k : Int) := by omega
    have hki : (k : Int) < (n : Int) + 1 := by omega
    have hkge : (k : Int) >= 0 := by omega
    have hkn2 : k <= n := by omega
    obtain ⟨Lb2, ra, rc, he, _, hrc, hrm, hrow⟩ := HS.out.1.lv.rowK (k := k) (by rw [<- HN.out]; exact hkn)
    injection he with he
    injection he with he _
    subst he
    unfold maxLen at hrm
    have hck := (hrow _ (Keeps.refl _ _)).2.1
    obtain ⟨ps, hps⟩ : ∃ x, x = (liveZ T C).getD k [] := ⟨_, rfl⟩
    have hlok := (zqe0 (C := C) HT.out.2.2 (T := T)).2 k
    rw [<- hps] at hck hrow hrc hlok
    have hp48 := zq61 hlok.1 hlok.2
    have HPS := hidep hps
    have HLOK := hidep hlok
    have HRD := hidep (fun W' hK => (hrow W' hK).2.2)
    have hNi := HAW.out.2.2
    clear hps hlok hrow hkk hNN hAw hkz
    obtain ⟨wo, hwo⟩ : ∃ wo : World, wo = wr := ⟨_, rfl⟩
    rw [<- hwo] at HS HSA HRD hac hck ⊢
    clear hwo
    go_upto_region 7 with (fail)
    clear hck hac
    refine wp_loop (LoopI 95 (fun tm ds wr => (slot tm 1) = .int .i64 (most : Nat) /\ (slot tm 2) = .pointer (some ⟨Rb, 0, none⟩) /\ (slot tm 5) = .slice (some ⟨Lb, 0, none⟩) (n + 1) (n + 1) /\ (slot tm 6) = .pointer (some ⟨Kb, 0, none⟩) /\ (slot tm 7) = .pointer (some ⟨A, 0, none⟩) /\ (slot tm 29) = .slice ra ps.length rc /\ (slot tm 30) = .int .i64 (ps.length : Nat) /\ ds = [] /\ VTi w T C most R Rb Kb Mm Lb A k N ps (slot tm 31) wr /\ Keeps (fun t => t ≠ 3) wo wr)) (fun a' wr => ps.length - natI (a'.tmps.getD 31 undef)) ?ilStart ?ilRound
    case' ilStart => refine LoopI.mk rfl ?_
    case' ilRound => (rintro ⟨t, ds⟩ wr ⟨hts, hrel⟩; dsimp only at hts hrel; rw [zq8b t ds hts])
    case ilStart => exact ⟨rfl, rfl, rfl, rfl, rfl, rfl, rfl, rfl, ⟨0, g, Nat.zero_le _, rfl, HSA.out, HS.out.1.keeps HS.out.1.low (Keeps.refl _ _) HS.out.1.mp (fun k' p' hp => .inl ⟨by
        rcases hp with hp | ⟨_, hp⟩
        · exact hp
        · simp at hp, rfl⟩)⟩, Keeps.refl _ _⟩
    obtain ⟨e1, e2, e5, e6, e7, e29, e30, hds, ⟨i, gi, hi, e31, hAi, hSi⟩, hKi⟩ := hrel
    subst hds
    rw [e1, e2, e5, e6, e7, e29, e30, e31]
    clear e1 e2 e5 e6 e7 e29 e30 e31 hts
    have HI := hidep (And.intro hAi (And.intro hSi hKi))
    clear hAi hSi hKi
    by_cases hip : i < ps.length
    · have hii : (i : Int) < (ps.length : Int) := by omega
      have hi0 : (0 : Int) <= (i : Int) := by omega
      have hwi : IntKind.i64.wrap ((i : Int) + 1) = (i : Int) + 1 := IntWalk.i64_in _ (by omega)
      have hrd := HRD.out _ HI.out.2.2
      obtain ⟨b, off, rfl, hbb, hpc⟩ := zqbf hrd hip
      obtain ⟨p, hp⟩ : ∃ x, x = ps[i] := ⟨_, rfl⟩
      rw [<- hp] at hpc
      have hpm : p ∈ ps := by rw [hp]; exact List.getElem_mem hip
      have HPO := hidep (And.intro (HLOK.out.2 p hpm) hpm)
      have HTK := hidep (show ps.take (i + 1) = ps.take i ++ [p] by rw [List.take_succ_eq_append_getElem hip, hp])
      have c0 := hpc 0 _ (by omega) rfl
      have c1 := hpc 1 _ (by omega) rfl
      have c2 := hpc 2 _ (by omega) rfl
      have c3 := hpc 3 _ (by omega) rfl
      have c4 := hpc 4 _ (by omega) rfl
      have c5 := hpc 5 _ (by omega) rfl
      rw [Nat.add_zero] at c0
      clear hp hpc hrd hpm
      go_upto_region 9 with (fail)
      obtain ⟨Pb, hPb⟩ : ∃ B, B = wr.heap.size := ⟨_, rfl⟩
      refine zq9 (fun X => Below wr.heap.size wr X /\ X.heap[Pb]? = some (PlBox (k : Nat) p)) ⟨(Below.refl _ _).alloc (Nat.le_refl _) _, by rw [hPb]; exact heap_alloc_new _ _⟩ ?_
      rintro X8 ⟨hb8, hp8⟩
      rw [<- hPb]
      have HS8 := hidep (HI.out.2.1.below hb8)
      have HX8 := hidep (And.intro hb8 (And.intro hp8 (zq0 hb8 HI.out.1)))
      clear hPb hb8 hp8 c0 c1 c2 c3 c4 c5
      go_upto_region 10 with (fail)
      obtain ⟨LB, hLB⟩ : ∃ B, B = X8.heap.size := ⟨_, rfl⟩
      refine zq9 (fun X => TxC X8 LB (.slice none 0 0) [] [] X) ⟨(Below.refl _ _).alloc (Nat.le_refl _) _, by rw [hLB]; exact Nat.le_refl _, by rw [hLB]; exact heap_alloc_new _ _, World.ownsRow_nil _ _ _ _, rfl, fun i h => by simp at h⟩ ?_
      intro X9 hC9
      rw [<- hLB]
      have HC9 := hidep hC9
      clear hLB hC9
      have HSEE := hidep (fun (Z : World) (hZ : Below X9.heap.size X9 Z) => by
        have h0 := HC9.out.low.trans (hZ.mono HC9.out.low.size)
        have h1 := HS8.out.below h0
        have h7 := (rd8 (zq0 h1.low HR.out)).2.2.2.2.2.2.2
        rw [<- HN.out] at h7
        exact And.intro (zq5 (zq0 h0 HX8.out.2.2)) (And.intro (zq5 h1.rb) (And.intro h7 (pl6 (zq0 h0 HX8.out.2.1)))))
      obtain ⟨tb, htb⟩ : ∃ x, x = decide (k = n /\ p.sw = false /\ p.need ≠ 2) := ⟨_, rfl⟩
      refine zq17 (TxM X9 (.int .i64 (most : Nat)) (.pointer (some ⟨Rb, 0, none⟩)) (.slice (some ⟨Lb, 0, none⟩) (n + 1) (n + 1)) (.pointer (some ⟨Kb, 0, none⟩)) (.pointer (some ⟨A, 0, none⟩)) (.pointer (some ⟨Pb, 0, none⟩)) (.pointer (some ⟨LB, 0, none⟩)) (.slice (some ⟨b, off, none⟩) ps.length rc) (.int .i64 (ps.length : Nat)) (.int .i64 (i : Nat)) tb) ?r10 ?_
      case r10 =>
        intro K' hMK
        by_cases hkn3 : k = n
        · have hke : ((k : Int) == (n : Int)) = true := by simp [hkn3]
          obtain ⟨sw, hsw⟩ : ∃ x, x = p.sw := ⟨_, rfl⟩
          rw [<- hsw] at HSEE htb
          cases sw with
          | true =>
            have htf : tb = false := by rw [htb]; simp
            rw [htf] at hMK
            clear htf htb hkn3 hsw
            refine wp_region_noPanic (wp_region_held_drew (S := (fun Z => Below X9.heap.size X9 Z)) (by kernel_rfl) ?hSz0 (fun hHeld => ?hRz0))
            case hSz0 => ((try dsimp only); (exact (Below.refl _ _).drew))
            refine tkB 0 rfl (.inl ⟨by kernel_rfl, fun w hSw => by (obtain ⟨hA, hRb, h7, p0, p1, p2, p3, p4, p5⟩ := HSEE.out _ hSw); go_simp; first | done | with_reducible rfl⟩) ?_
            refine tkB 1 rfl (.inl ⟨by kernel_rfl, fun w hSw => by (obtain ⟨hA, hRb, h7, p0, p1, p2, p3, p4, p5⟩ := HSEE.out _ hSw); go_simp; first | done | with_reducible rfl⟩) ?_
            refine tkC 2 rfl ?_
            refine tkC 3 rfl ?_
            refine tkB 4 rfl (.inl ⟨by kernel_rfl, fun w hSw => by (obtain ⟨hA, hRb, h7, p0, p1, p2, p3, p4, p5⟩ := HSEE.out _ hSw); go_simp; first | done | with_reducible rfl⟩) ?_
            refine tkC 5 rfl ?_
            refine tkC 6 rfl ?_
            refine tkC 7 rfl ?_
            refine tkC 8 rfl ?_
            refine tkB 9 rfl (.inl ⟨by kernel_rfl, fun w hSw => by (obtain ⟨hA, hRb, h7, p0, p1, p2, p3, p4, p5⟩ := HSEE.out _ hSw); go_simp; first | done | with_reducible rfl⟩) ?_
            refine tkC 10 rfl ?_
            refine tkC 11 rfl ?_
            refine tkC 12 rfl ?_
            refine tkB 13 rfl (.inr ⟨by kernel_rfl, rfl⟩) ?_
            refine tkB 14 rfl (.inr ⟨by kernel_rfl, rfl⟩) ?_
            refine tkB 15 rfl (.inr ⟨by kernel_rfl, rfl⟩) ?_
            refine tkC 16 rfl ?_
            refine wpAnyH_done (by kernel_rfl) ?_ _
            clear hHeld
            refine NoPanic.normal ?_
            dsimp only [Exit.then]
            (refine hMK _ _ ⟨?_, ?_, ?_, ?_, ?_, ?_, ?_, ?_, ?_, ?_, ?_, ?_, ?_, (Below.refl _ _).drew⟩ <;> kernel_rfl)
          | false =>
            by_cases hnd : p.need = 2
            · have hne : ((p.need : Int) != 2) = false := by rw [hnd]; rfl
              have htf : tb = false := by rw [htb]; simp [hnd]
              rw [htf] at hMK
              clear htf htb hkn3 hsw hnd
              refine wp_region_noPanic (wp_region_held_drew (S := (fun Z => Below X9.heap.size X9 Z)) (by kernel_rfl) ?hSz1 (fun hHeld => ?hRz1))
              case hSz1 => ((try dsimp only); (exact (Below.refl _ _).drew))
              refine tkB 0 rfl (.inl ⟨by kernel_rfl, fun w hSw => by (obtain ⟨hA, hRb, h7, p0, p1, p2, p3, p4, p5⟩ := HSEE.out _ hSw); go_simp; first | done | with_reducible rfl⟩) ?_
              refine tkB 1 rfl (.inl ⟨by kernel_rfl, fun w hSw => by (obtain ⟨hA, hRb, h7, p0, p1, p2, p3, p4, p5⟩ := HSEE.out _ hSw); go_simp; first | done | with_reducible rfl⟩) ?_
              refine tkC 2 rfl ?_
              refine tkC 3 rfl ?_
              refine tkB 4 rfl (.inl ⟨by kernel_rfl, fun w hSw => by (obtain ⟨hA, hRb, h7, p0, p1, p2, p3, p4, p5⟩ := HSEE.out _ hSw); go_simp; first | done | with_reducible rfl⟩) ?_
              refine tkC 5 rfl ?_
              refine tkC 6 rfl ?_
              refine tkC 7 rfl ?_
              refine tkC 8 rfl ?_
              refine tkB 9 rfl (.inl ⟨by kernel_rfl, fun w hSw => by (obtain ⟨hA, hRb, h7, p0, p1, p2, p3, p4, p5⟩ := HSEE.out _ hSw); go_simp; first | done | with_reducible rfl⟩) ?_
              refine tkC 10 rfl ?_
              refine tkC 11 rfl ?_
              refine tkC 12 rfl ?_
              refine tkC 13 rfl ?_
              refine tkB 14 rfl (.inl ⟨by kernel_rfl, fun w hSw => by (obtain ⟨hA, hRb, h7, p0, p1, p2, p3, p4, p5⟩ := HSEE.out _ hSw); go_simp; first | done | with_reducible rfl⟩) ?_
              refine tkC 15 rfl ?_
              refine tkC 16 rfl ?_
              refine wpAnyH_done (by kernel_rfl) ?_ _
              clear hHeld
              refine NoPanic.normal ?_
              dsimp only [Exit.then]
              (refine hMK _ _ ⟨?_, ?_, ?_, ?_, ?_, ?_, ?_, ?_, ?_, ?_, ?_, ?_, ?_, (Below.refl _ _).drew⟩ <;> kernel_rfl)
            · have hne : ((p.need : Int) != 2) = true := by simp; omega
              have htf : tb = true := by rw [htb]; simp [hnd, hkn3]
              rw [htf] at hMK
              clear htf htb hkn3 hsw hnd
              refine wp_region_noPanic (wp_region_held_drew (S := (fun Z => Below X9.heap.size X9 Z)) (by kernel_rfl) ?hSz2 (fun hHeld => ?hRz2))
              case hSz2 => ((try dsimp only); (exact (Below.refl _ _).drew))
              refine tkB 0 rfl (.inl ⟨by kernel_rfl, fun w hSw => by (obtain ⟨hA, hRb, h7, p0, p1, p2, p3, p4, p5⟩ := HSEE.out _ hSw); go_simp; first | done | with_reducible rfl⟩) ?_
              refine tkB 1 rfl (.inl ⟨by kernel_rfl, fun w hSw => by (obtain ⟨hA, hRb, h7, p0, p1, p2, p3, p4, p5⟩ := HSEE.out _ hSw); go_simp; first | done | with_reducible rfl⟩) ?_
              refine tkC 2 rfl ?_
              refine tkC 3 rfl ?_
              refine tkB 4 rfl (.inl ⟨by kernel_rfl, fun w hSw => by (obtain ⟨hA, hRb, h7, p0, p1, p2, p3, p4, p5⟩ := HSEE.out _ hSw); go_simp; first | done | with_reducible rfl⟩) ?_
              refine tkC 5 rfl ?_
              refine tkC 6 rfl ?_
              refine tkC 7 rfl ?_
              refine tkC 8 rfl ?_
              refine tkB 9 rfl (.inl ⟨by kernel_rfl, fun w hSw => by (obtain ⟨hA, hRb, h7, p0, p1, p2, p3, p4, p5⟩ := HSEE.out _ hSw); go_simp; first | done | with_reducible rfl⟩) ?_
              refine tkC 10 rfl ?_
              refine tkC 11 rfl ?_
              refine tkC 12 rfl ?_
              refine tkC 13 rfl ?_
              refine tkB 14 rfl (.inl ⟨by kernel_rfl, fun w hSw => by (obtain ⟨hA, hRb, h7, p0, p1, p2, p3, p4, p5⟩ := HSEE.out _ hSw); go_simp; first | done | with_reducible rfl⟩) ?_
              refine tkC 15 rfl ?_
              refine tkC 16 rfl ?_
              refine wpAnyH_done (by kernel_rfl) ?_ _
              clear hHeld
              refine NoPanic.normal ?_
              dsimp only [Exit.then]
              (refine hMK _ _ ⟨?_, ?_, ?_, ?_, ?_, ?_, ?_, ?_, ?_, ?_, ?_, ?_, ?_, (Below.refl _ _).drew⟩ <;> kernel_rfl)
        · have hke : ((k : Int) == (n : Int)) = false := by simp; omega
          have htf : tb = false := by rw [htb]; simp [hkn3]
          rw [htf] at hMK
          clear htf htb hkn3
          refine wp_region_noPanic (wp_region_held_drew (S := (fun Z => Below X9.heap.size X9 Z)) (by kernel_rfl) ?hSz3 (fun hHeld => ?hRz3))
          case hSz3 => ((try dsimp only); (exact (Below.refl _ _).drew))
          refine tkB 0 rfl (.inl ⟨by kernel_rfl, fun w hSw => by (obtain ⟨hA, hRb, h7, p0, p1, p2, p3, p4, p5⟩ := HSEE.out _ hSw); go_simp; first | done | with_reducible rfl⟩) ?_
          refine tkB 1 rfl (.inl ⟨by kernel_rfl, fun w hSw => by (obtain ⟨hA, hRb, h7, p0, p1, p2, p3, p4, p5⟩ := HSEE.out _ hSw); go_simp; first | done | with_reducible rfl⟩) ?_
          refine tkC 2 rfl ?_
          refine tkC 3 rfl ?_
          refine tkB 4 rfl (.inl ⟨by kernel_rfl, fun w hSw => by (obtain ⟨hA, hRb, h7, p0, p1, p2, p3, p4, p5⟩ := HSEE.out _ hSw); go_simp; first | done | with_reducible rfl⟩) ?_
          refine tkC 5 rfl ?_
          refine tkC 6 rfl ?_
          refine tkC 7 rfl ?_
          refine tkB 8 rfl (.inr ⟨by kernel_rfl, rfl⟩) ?_
          refine tkB 9 rfl (.inr ⟨by kernel_rfl, rfl⟩) ?_
          refine tkB 10 rfl (.inr ⟨by kernel_rfl, rfl⟩) ?_
          refine tkC 11 rfl ?_
          refine tkC 12 rfl ?_
          refine tkB 13 rfl (.inr ⟨by kernel_rfl, rfl⟩) ?_
          refine tkB 14 rfl (.inr ⟨by kernel_rfl, rfl⟩) ?_
          refine tkB 15 rfl (.inr ⟨by kernel_rfl, rfl⟩) ?_
          refine tkC 16 rfl ?_
          refine wpAnyH_done (by kernel_rfl) ?_ _
          clear hHeld
          refine NoPanic.normal ?_
          dsimp only [Exit.then]
          (refine hMK _ _ ⟨?_, ?_, ?_, ?_, ?_, ?_, ?_, ?_, ?_, ?_, ?_, ?_, ?_, (Below.refl _ _).drew⟩ <;> kernel_rfl)
      rintro ⟨tm10, ds⟩ X10 ⟨hts, hds, e1, e2, e5, e6, e7, e9, e10, e29, e30, e31, e51, hb10⟩
      simp only at hts hds e1 e2 e5 e6 e7 e9 e10 e29 e30 e31 e51
      subst hds
      apply_assumption
      rw [zq8b tm10 [] hts, e1, e2, e5, e6, e7, e9, e10, e29, e30, e31, e51]
      clear hts e1 e2 e5 e6 e7 e9 e10 e29 e30 e31 e51
      have HC10 := hidep (HC9.out.below hb10)
      have HRAW := hidep (show raw0 n k p = if tb = true then [[]] else [] from by
        unfold raw0
        rw [htb]
        by_cases hh : k = n /\ p.sw = false /\ p.need ≠ 2
        · rw [if_pos hh, if_pos (decide_eq_true hh)]
        · rw [if_neg hh, if_neg (by rw [decide_eq_false hh]; simp)])
      clear htb hb10 HSEE
      refine zq17 (TxN X8 LB (raw0 n k p) (.int .i64 (most : Nat)) (.pointer (some ⟨Rb, 0, none⟩)) (.slice (some ⟨Lb, 0, none⟩) (n + 1) (n + 1)) (.pointer (some ⟨Kb, 0, none⟩)) (.pointer (some ⟨A, 0, none⟩)) (.pointer (some ⟨Pb, 0, none⟩)) (.pointer (some ⟨LB, 0, none⟩)) (.slice (some ⟨b, off, none⟩) ps.length rc) (.int .i64 (ps.length : Nat)) (.int .i64 (i : Nat))) ?r11 ?_
      case r11 =>
        intro K' hMK
        rw [HRAW.out] at hMK
        cases tb with
        | false =>
          rw [if_neg (by simp)] at hMK
          go_wp2
          exact ⟨rfl, rfl, rfl, rfl, rfl, rfl, rfl, rfl, rfl, rfl, rfl, rfl, _, _, HC10.out⟩
        | true =>
          rw [if_pos rfl] at hMK
          have hc10 := zq5 HC10.out.box
          have hfz : X10.frozen? ⟨LB, 0, none⟩ = false := zq1 HC10.out.box 0
          have hlo10 := HC10.out.low.size
          have hbX : Below X10.heap.size X10 (X10.alloc (.cells #[.slice none 0 0] 31)) := (Below.refl _ _).alloc (Nat.le_refl _) _
          have HBX := hidep hbX
          clear hbX
          go_wp2_with (at_builtin; refine zq4 _ rfl _ _ rfl slSymss X8.heap.size (.slice none 0 0) 0 [] rfl (World.ownsRow_nil _ _ _ _) _ _ _ _ rfl (zq28 (heap_alloc_new X10 (.cells #[.slice none 0 0] 31))) (by intro u hu; simp at hu; subst hu; rfl) (by decide) (by omega) (by rw [World.size_alloc]; omega) ?_; intro v7 w7 ho7 hg7 hown7 hnl7; clear hnl7; have hL7 : w7.heap[LB]? = some (.cells #[.slice none 0 0] 42) := (hg7.block LB (by rw [World.size_alloc]; have := lt_of_block HC10.out.box; omega) (fun e => by cases (show some LB = none from e))).trans (zq0 HBX.out HC10.out.box); have hc7 : w7.cell? ⟨LB, 0, none⟩ = some (.slice none 0 0) := zq5 hL7; have hf7 : w7.frozen? ⟨LB, 0, none⟩ = false := zq1 hL7 0; clear hL7; obtain ⟨a7, c7, rfl, _, _⟩ := (Rd.of_own ho7).form)
          have hp7 := HC10.out.push (u := .slice none 0 0) (x := []) HBX.out (World.ownsRow_nil _ _ _ _) (by exact ho7) (by exact hg7) (by exact hown7)
          exact ⟨rfl, rfl, rfl, rfl, rfl, rfl, rfl, rfl, rfl, rfl, rfl, rfl, _, _, hp7.1⟩
      rintro ⟨tm11, ds⟩ X11 ⟨hts, hds, e1, e2, e5, e6, e7, e9, e10, e29, e30, e31, hC11⟩
      simp only at hts hds e1 e2 e5 e6 e7 e9 e10 e29 e30 e31
      subst hds
      apply_assumption
      rw [zq8b tm11 [] hts, e1, e2, e5, e6, e7, e9, e10, e29, e30, e31]
      clear hts e1 e2 e5 e6 e7 e9 e10 e29 e30 e31
      obtain ⟨v11, us11, hC11⟩ := hC11
      have h811 := hC11.low
      have hS11 := HS8.out.below h811
      have hRb11 := zq5 hS11.rb
      obtain ⟨p0, p1, p2, p3, p4, p5⟩ := pl6 (zq0 h811 HX8.out.2.1)
      have hCk : k <= C.length := by rw [<- HN.out]; exact hkn2
      have hpk : p ∈ (liveZ T C).getD k [] := by rw [<- HPS.out]; exact HPO.out.2
      have HOF := hidep (zqba V T (.slice ca C.length cc) R X8 (HT.out.1.below HS8.out.low) HT.out.2.1 HT.out.2.2 (zq0 HS8.out.low HR.out) p HPO.out.1.1 HPO.out.1.2 (k : Nat) 105 _ (TxJ X8 LB T C k p (txtZ T C most)) (tx_taker V T (.slice ca C.length cc) C X8 R Rb A Kb Mm LB Pb (N + i) gi p k HT.out.2.2 (zq0 HS8.out.low HR.out) HS8.out.rb HX8.out.2.2 HS8.out.kb HS8.out.mp HX8.out.2.1 (HC.out.below HS8.out.low) HCL.out hCk HPO.out.1 (txtZ T C most) (fun m hm hb => by
          have hmm := zq2f HT.out.2.2 HPO.out.1 hm
          have hbb := zq4b hCk hb
          refine ⟨HS8.out.got _ _ (.inl ⟨by omega, by omega, hbb, live_closed HT.out.2.2 hCk hpk hm hb⟩), ?_, fun x hx => ?_⟩
          · have := zqaf (most := most) HT.out.2.2 hmm.1 hbb
            omega
          · have := txtZ_size (most := most) HT.out.2.2 hmm.1 hbb x hx
            have := HCL.out
            omega)) (TxB LB v11 us11) X11 ⟨v11, us11, by unfold rawTo; rw [List.flatMap_nil, List.append_nil, <- HN.out]; exact hC11, fun _ => Iff.rfl⟩)
      clear hCk hpk hC11 h811 hS11
      go_upto_region 13 with (go_at_call 79; refine HOF.out.mono ?_; rintro e w12 ⟨rfl, B', hJ12, hT12, hB12⟩)
      obtain ⟨v12, us12, hC12, _⟩ := hJ12
      have HL12 := hidep (show rawTo T C k p (txtZ T C most) (zqa T p) = rawZ T C k p (txtZ T C most) from rfl)
      rw [HL12.out] at hC12
      have hlen12 := rawTo_len (T := T) (C := C) (k := k) (p := p) (G := txtZ T C most) (d := zqa T p) (fun m hm hb => by
          have hmm := zq2f HT.out.2.2 HPO.out.1 hm
          have hbb := zq4b (by rw [<- HN.out]; exact hkn2) hb
          have := zqaf (most := most) HT.out.2.2 hmm.1 hbb
          omega) (movesZ_len HT.out.2.2 p)
      rw [HL12.out] at hlen12
      obtain ⟨L12, hL12⟩ : ∃ x, x = rawZ T C k p (txtZ T C most) := ⟨_, rfl⟩
      rw [<- hL12] at hC12 hlen12
      have HLL := hidep hL12
      have hul : us12.length <= 1000000 := by rw [hC12.len]; omega
      obtain ⟨a12, c12, rfl, h12a, h12b⟩ := (Rd.of_own hC12.row).form
      unfold maxLen at h12b
      have hl12 := zq5 hC12.box
      have hsy12 : ∀ i (h : i < us12.length) (h' : i < L12.length), SymsAt w12 us12[i] L12[i] := fun i h h' => SymsAt.of_own (hC12.rows i h h')
      have HSO := hidep (sortT_any X8.heap.size _ us12 L12 w12 hC12.row hC12.len hsy12 hul)
      have hvL : (Value.slice a12 us12.length c12).ownBlock ≠ some LB := fun e => by
        obtain ⟨cur2, h2⟩ := zq1d hC12.row e
        rw [hC12.box] at h2
        injection h2 with h2
        injection h2 with _ h3 _
        exact absurd h3 (by decide)
      have hvlo : ∀ x, (Value.slice a12 us12.length c12).ownBlock = some x -> X8.heap.size <= x := fun x e => (hC12.row.lt x e).1
      have HV := hidep (And.intro hvL hvlo)
      have HC12 := hidep hC12
      obtain ⟨un, hun⟩ : ∃ x, x = us12.length := ⟨_, rfl⟩
      rw [<- hun] at hl12 h12a HSO HV hul
      have HUN := hidep hun
      clear hRb11 p0 p1 p2 p3 p4 p5 HOF hT12 hB12 hC12 hL12 hlen12 hsy12 hvL hvlo hun
      go_upto_region 14 with (go_at_call 107; refine HSO.out.mono ?_; rintro e w13 ⟨rfl, us13, L13, hperm, hasc, hu13, hl13, ho13, hs13, hT13⟩)
      have hC13 := HC12.out
      have hbox13 : w13.heap[LB]? = some (.cells #[.slice a12 un c12] 42) := by
        rw [HUN.out]
        exact hT13.cells hC13.box (fun e => HV.out.1 e)
      have hb13 : Below X8.heap.size X8 w13 := zq19 hC13.low (Nat.le_refl _) hT13 (fun x e => HV.out.2 x e)
      have hl13c := zq5 hbox13
      have HCP := hidep (compact_any X8.heap.size (.slice a12 un c12) us13 L13 w13 ho13 hl13 hs13 (by rw [hu13]; exact hul))
      have H13 := hidep (And.intro hperm (And.intro hasc (And.intro hbox13 hb13)))
      clear hl12 HSO hperm hasc hu13 hl13 ho13 hs13 hT13 hbox13 hb13 hC13
      go_upto_region 15 with (go_at_call 109; refine HCP.out.mono ?_; rintro e w14 ⟨v14, rfl, hs14, hT14⟩; have hbox14 : w14.heap[LB]? = some (.cells #[.slice a12 un c12] 42) := hT14.cells H13.out.2.2.1 (fun e => HV.out.1 e); have hc14 := zq5 hbox14; have hf14 : w14.frozen? ⟨LB, 0, none⟩ = false := zq1 hbox14 0; obtain ⟨a14, c14, rfl, h14a, h14b⟩ := hs14.form)
      unfold maxLen at h14b
      have hcomp := txtZ_sorted (T := T) (C := C) (most := most) (k := k) (p := p) HT.out.2.2 HPO.out.1 (by rw [<- HN.out]; exact hkn2) (L := L13) (by rw [<- HLL.out]; exact H13.out.1) H13.out.2.1
      obtain ⟨L14, hL14⟩ : ∃ x, x = compZ L13 := ⟨_, rfl⟩
      rw [<- hL14] at hcomp hs14 h14a
      rw [<- hL14]
      have hb14 : Below X8.heap.size X8 w14 := zq19 H13.out.2.2.2 (Nat.le_refl _) hT14 (fun x e => HV.out.2 x e)
      refine zq9 (fun X => Below X8.heap.size X8 X /\ X.heap[LB]? = some (.cells #[.slice a14 L14.length c14] 42) /\ SymssAt X (.slice a14 L14.length c14) L14) ⟨hb14.setCell HC12.out.lo _, zq12 hbox14 0 _, hs14.keeps (T := fun t => t ≠ 42) (Keeps.setCell (a := ⟨LB, 0, none⟩) hbox14 (fun t ht => ht) _) (by decide) (by decide)⟩ ?_
      rintro X15 ⟨hb15, hl15, hs15⟩
      have hNm : N + i < maxLen := by have := HCL.out; unfold maxLen; omega
      have HOKP := hidep (show zq34 (k, p) from ⟨by show k <= 1000000; omega, HPO.out.1.2, HPO.out.1.1⟩)
      have HS15 := hidep (fun (Z : World) (hZ : Below X15.heap.size X15 Z) => HS8.out.below (hb15.trans (hZ.mono hb15.size)))
      have HSEE := hidep (fun (Z : World) (hZ : Below X15.heap.size X15 Z) => And.intro (zq5 (HS15.out _ hZ).kb) (And.intro (zq5 (zq0 hZ hl15)) (pl6 (zq0 (hb15.trans (hZ.mono hb15.size)) HX8.out.2.1))))
      have HB15 := hidep (And.intro hb15 hs15)
      have HCO := hidep hcomp
      obtain ⟨mm, hmm⟩ : ∃ x, x = min L14.length most := ⟨_, rfl⟩
      have hmn : min (L14.length : Int) (most : Int) = (mm : Int) := by omega
      have hm0 : (0 : Int) <= (mm : Int) := by omega
      have hmc : (mm : Int) <= (c14 : Int) := by omega
      have hml : mm <= L14.length := by omega
      have HMM := hidep hmm
      clear hb15 hl15 hs15 hcomp hc14 hf14 hs14 hbox14 hT14 hb14 hl13c hL14 hmm
      refine wp_region_noPanic (zq3c (S := (fun Z => Below X15.heap.size X15 Z)) [8] (by kernel_rfl) ?hSz4 (fun hHeld => ?hRz4))
      case hSz4 => ((try dsimp only); (exact (Below.refl _ _).drew))
      refine tkD 0 rfl (.inl ⟨by kernel_rfl, fun w hSw => by (obtain ⟨hKb, hlb, p0, p1, p2, p3, p4, p5⟩ := HSEE.out _ hSw); go_simp; first | done | with_reducible rfl⟩) ?_
      refine tkD 1 rfl (.inl ⟨by kernel_rfl, fun w hSw => by (obtain ⟨hKb, hlb, p0, p1, p2, p3, p4, p5⟩ := HSEE.out _ hSw); go_simp; first | done | with_reducible rfl⟩) ?_
      refine tkD 2 rfl (.inl ⟨by kernel_rfl, fun w hSw => by (obtain ⟨hKb, hlb, p0, p1, p2, p3, p4, p5⟩ := HSEE.out _ hSw); go_simp; first | done | with_reducible rfl⟩) ?_
      refine tkD 3 rfl (.inl ⟨by kernel_rfl, fun w hSw => by (obtain ⟨hKb, hlb, p0, p1, p2, p3, p4, p5⟩ := HSEE.out _ hSw); go_simp; first | done | with_reducible rfl⟩) ?_
      refine tkD 4 rfl (.inl ⟨by kernel_rfl, fun w hSw => by (obtain ⟨hKb, hlb, p0, p1, p2, p3, p4, p5⟩ := HSEE.out _ hSw); go_simp; first | done | with_reducible rfl⟩) ?_
      refine tkD 5 rfl (.inl ⟨by kernel_rfl, fun w hSw => by (obtain ⟨hKb, hlb, p0, p1, p2, p3, p4, p5⟩ := HSEE.out _ hSw); go_simp; first | done | with_reducible rfl⟩) ?_
      refine zq16 (rs := [6]) (by kernel_rfl) (by simp) (AllReadyD.cons rfl (by kernel_rfl) (fun K hK => ?hcz5) AllReadyD.nil)
      go_simp
      refine hK.out _ _ (by (try dsimp only); (exact hHeld)) ?_
      clear hHeld hK; intro hHeld
      refine tkD 7 rfl (.inl ⟨by kernel_rfl, fun w hSw => by (obtain ⟨hKb, hlb, p0, p1, p2, p3, p4, p5⟩ := HSEE.out _ hSw); go_simp; first | done | with_reducible rfl⟩) ?_
      refine zq16 (rs := [8]) (by kernel_rfl) (by simp) (AllReadyD.last rfl (by kernel_rfl) (fun K hK => ?hcz6) AllReadyD.nil)
      (refine step_mapUpdate_map rfl zqc4 (.tmp 63) (.tmp 64) (.tmp 70) rfl (HS15.out _ hHeld).mp rfl hNm (k, p) HOKP.out (by kernel_rfl) _ rfl ?_; intro w5 hm5 hg5; have hB5 := hHeld)
      refine hK.out _ _ ?_
      clear hHeld hK
      have hHeld := True.intro
      refine wpAnyH_done (by kernel_rfl) ?_ _
      clear hHeld
      refine NoPanic.normal ?_
      have hB8 := HB15.out.1.trans (hB5.mono HB15.out.1.size)
      have hK5 : Keeps (fun _ => True) _ w5 := map_keeps (HS15.out _ hB5).mp hg5
      have hv5 : SymssAt X15 (.slice a14 mm c14) (txtZ T C most k p) := by
        have h := HB15.out.2.pre hml
        rw [show L14.take mm = txtZ T C most k p from by rw [<- HCO.out, HMM.out, List.take_eq_take_iff]; omega] at h
        exact h
      have hlow5 : Below w.heap.size w w5 := ((HS15.out _ hB5).low).grown hg5 (HS15.out _ hB5).low.size (fun x hx => by injection hx with hx; rw [<- hx]; exact HKW.out)
      have hS5 : TxS w T C most R Rb Kb Mm Lb (N + (i + 1)) (updK gi (k, p) (.slice a14 mm c14)) (fun k' q => DonZ T C (k + 1) k' q \/ (k' = k /\ q ∈ ps.take (i + 1))) w5 := by
        refine (HS15.out _ hB5).keeps hlow5 (hK5.mono (fun _ _ => trivial)) hm5 (fun k' q hq => ?_)
        by_cases he : (k', q) = (k, p)
        · right
          rw [he, zq6c]
          injection he with e1 e2
          subst e1 e2
          exact hv5.below hB5
        · left
          rw [zq50 _ _ he]
          refine ⟨?_, rfl⟩
          rcases hq with hq | ⟨hq1, hq2⟩
          · exact .inl hq
          · rw [HTK.out] at hq2
            rcases List.mem_append.1 hq2 with hq2 | hq2
            · exact .inr ⟨hq1, hq2⟩
            · rw [List.mem_singleton] at hq2
              exact (he (by rw [hq1, hq2])).elim
      have hA5 := hK5.2 _ _ _ _ trivial (zq0 (hB8) HX8.out.2.2)
      have hKo : Keeps (fun t => t ≠ 3) wo w5 := (HI.out.2.2.trans (Keeps.below _ (HX8.out.1.trans (hB8.mono HX8.out.1.size)))).trans (hK5.mono (fun _ _ => trivial))
      have HR5 := hidep (And.intro hA5 (And.intro hS5 hKo))
      clear hB8 hK5 hv5 hlow5 hS5 hA5 hKo hm5 hg5 hB5 HSEE
      go_wp2
      refine ⟨LoopI.mk rfl ⟨rfl, rfl, rfl, rfl, rfl, rfl, rfl, rfl, ⟨i + 1, _, by omega, by show Value.int _ _ = _; go_num, HR5.out.1, HR5.out.2.1⟩, HR5.out.2.2⟩, ?_⟩
      show ps.length - _ < ps.length - _
      simp [natI]; omega
    · have hii : ¬ (i : Int) < (ps.length : Int) := by omega
      have hie : i = ps.length := by omega
      have hS1 : TxS w T C most R Rb Kb Mm Lb (N + ps.length) gi (DonZ T C k) wr := HI.out.2.1.keeps HI.out.2.1.low (Keeps.refl _ _) (by rw [<- hie]; exact HI.out.2.1.mp) (fun k' q hq => .inl ⟨by
        obtain ⟨h1, h2, h3, h4⟩ := hq
        by_cases hk : k' = k
        · right
          rw [hie, List.take_length, HPS.out, <- hk]
          exact ⟨rfl, h4⟩
        · exact .inl ⟨by omega, by omega, h3, h4⟩, rfl⟩)
      have HS1 := hidep (And.intro hS1 HI.out.1)
      have hac := zq5 HI.out.1
      have hw12 : IntKind.i64.wrap ((k : Int) + 12) = (k : Int) + 12 := IntWalk.i64_in _ (by omega)
      have hw13 : IntKind.i64.wrap ((k : Int) + 12 + 1) = (k : Int) + 13 := by rw [show (k : Int) + 12 + 1 = (k : Int) + 13 from by omega]; exact IntWalk.i64_in _ (by omega)
      have hps : N + ps.length <= 48 * (C.length + 1 - k) := by have := HN.out; omega
      have HNP := hidep hps
      clear hie hS1 hps HI
      obtain ⟨far, hfar⟩ : ∃ x : Int, x = (k : Int) + 13 := ⟨_, rfl⟩
      rw [<- hfar] at hw13
      have hfr : far <= 10000 := by omega
      have HFAR := hidep hfar
      have hf0 : 0 <= far := by omega
      clear hfar
      obtain ⟨wz, hwz⟩ : ∃ wz : World, wz = wr := ⟨_, rfl⟩
      rw [<- hwz] at HS1 hac ⊢
      clear hwz
      go_upto_if 78 with (fail)
      refine zqad (TxQ w T C most R Rb Kb Mm Lb (N + ps.length) k A (.int .i64 (most : Nat)) (.pointer (some ⟨Rb, 0, none⟩)) (.slice (some ⟨Lb, 0, none⟩) (n + 1) (n + 1)) (.pointer (some ⟨Kb, 0, none⟩))) ?r18 ?_
      case r18 =>
        intro K' hMK
        by_cases hfn : far < (n : Int) + 1
        · obtain ⟨fn, hfe⟩ : ∃ x : Nat, (x : Int) = far := ⟨far.toNat, by omega⟩
          have hfk : fn = k + 13 := by have := HFAR.out; omega
          have hfn1 : fn < n + 1 := by omega
          have hft : far.toNat = fn := by omega
          obtain ⟨Lb3, da, dc, he3, _, hdc, hdm, hdrow⟩ := HS1.out.1.lv.rowK (k := fn) (by rw [<- HN.out]; exact hfn1)
          injection he3 with he3
          injection he3 with he3 _
          subst he3
          unfold maxLen at hdm
          have hdk := (hdrow _ (Keeps.refl _ _)).2.1
          obtain ⟨qs, hqs⟩ : ∃ x, x = (liveZ T C).getD fn [] := ⟨_, rfl⟩
          have hlok2 := (zqe0 (C := C) HT.out.2.2 (T := T)).2 fn
          rw [<- hqs] at hdk hdrow hdc hlok2
          have hq48 := zq61 hlok2.1 hlok2.2
          have HQOK := hidep hlok2.2
          have HRQ := hidep (fun W' hK => (hdrow W' hK).2.2)
          have HFN := hidep (And.intro hfk hfn1)
          clear hqs hlok2 hdrow hfe hfk hfn1
          go_upto_region 20 with (fail)
          clear hdk hac
          refine wp_loop (LoopI 95 (fun tm ds wr => (slot tm 1) = .int .i64 (most : Nat) /\ (slot tm 2) = .pointer (some ⟨Rb, 0, none⟩) /\ (slot tm 5) = .slice (some ⟨Lb, 0, none⟩) (n + 1) (n + 1) /\ (slot tm 6) = .pointer (some ⟨Kb, 0, none⟩) /\ (slot tm 7) = .pointer (some ⟨A, 0, none⟩) /\ (slot tm 82) = .slice da qs.length dc /\ (slot tm 83) = .int .i64 (qs.length : Nat) /\ ds = [] /\ VTd w T C most R Rb Kb Mm Lb A k (N + ps.length) qs (slot tm 84) wr /\ Keeps (fun t => t ≠ 3) wz wr)) (fun a' wr => qs.length - natI (a'.tmps.getD 84 undef)) ?dlStart ?dlRound
          case' dlStart => refine LoopI.mk rfl ?_
          case' dlRound => (rintro ⟨t, ds⟩ wr ⟨hts, hrel⟩; dsimp only at hts hrel; rw [zq8b t ds hts])
          case dlStart => exact ⟨rfl, rfl, rfl, rfl, rfl, rfl, rfl, rfl, ⟨0, gi, Nat.zero_le _, rfl, HS1.out.2, HS1.out.1⟩, Keeps.refl _ _⟩
          obtain ⟨e1, e2, e5, e6, e7, e82, e83, hds, ⟨j, gj, hj, e84, hAj, hSj⟩, hKj⟩ := hrel
          subst hds
          rw [e1, e2, e5, e6, e7, e82, e83, e84]
          clear e1 e2 e5 e6 e7 e82 e83 e84 hts
          have HJ := hidep (And.intro hAj (And.intro hSj hKj))
          clear hAj hSj hKj
          by_cases hjq : j < qs.length
          · have hji : (j : Int) < (qs.length : Int) := by omega
            have hj0 : (0 : Int) <= (j : Int) := by omega
            have hwj : IntKind.i64.wrap ((j : Int) + 1) = (j : Int) + 1 := IntWalk.i64_in _ (by omega)
            have hrd := HRQ.out _ HJ.out.2.2
            obtain ⟨b2, off2, rfl, hbb2, hpc⟩ := zqbf hrd hjq
            obtain ⟨q, hq⟩ : ∃ x, x = qs[j] := ⟨_, rfl⟩
            rw [<- hq] at hpc
            have hqo : PlOk q := by rw [hq]; exact HQOK.out _ (List.getElem_mem hjq)
            have HQO := hidep hqo
            have c0 := hpc 0 _ (by omega) rfl
            have c1 := hpc 1 _ (by omega) rfl
            have c2 := hpc 2 _ (by omega) rfl
            have c3 := hpc 3 _ (by omega) rfl
            have c4 := hpc 4 _ (by omega) rfl
            have c5 := hpc 5 _ (by omega) rfl
            rw [Nat.add_zero] at c0
            clear hq hpc hrd hqo
            go_upto_region 22 with (fail)
            obtain ⟨Qb, hQb⟩ : ∃ B, B = wr.heap.size := ⟨_, rfl⟩
            refine zq9 (fun X => Below wr.heap.size wr X /\ X.heap[Qb]? = some (PlBox (fn : Nat) q)) ⟨(Below.refl _ _).alloc (Nat.le_refl _) _, by rw [hQb]; exact heap_alloc_new _ _⟩ ?_
            rintro X21 ⟨hb21, hq21⟩
            rw [<- hQb]
            have HS21 := hidep (And.intro hb21 (HJ.out.2.1.below hb21))
            obtain ⟨p0, p1, p2, p3, p4, p5⟩ := pl6 hq21
            have hKb := zq5 HS21.out.2.kb
            have HOKQ := hidep (show zq34 (fn, q) from ⟨by show fn <= 1000000; have := HFN.out.2; omega, HQO.out.2, HQO.out.1⟩)
            clear hQb hb21 hq21 c0 c1 c2 c3 c4 c5
            obtain ⟨w5, hdel0, hm5, hg5⟩ := HS21.out.2.mp.delete zqc4 (x := (fn, q)) HOKQ.out 0
            have hdel : (Builtin.delete_ #[155, 133] 0 #[.map (some Mm), .agg #[.int .i64 (fn : Nat), .int .i64 q.st.lang, .bool q.st.num, .bool q.st.word, .int .i64 (q.need : Nat), .bool q.sw]]).run Tryz.prog X21 = .ok (.tuple #[]) w5 := hdel0
            clear hdel0
            go_upto_region 23 with (fail)
            have hK5 : Keeps (fun _ => True) _ w5 := map_keeps HS21.out.2.mp hg5
            have hlow5 : Below w.heap.size w w5 := HS21.out.2.low.grown hg5 HS21.out.2.low.size (fun x hx => by injection hx with hx; rw [<- hx]; exact HKW.out)
            have hS5 : TxS w T C most R Rb Kb Mm Lb (N + ps.length) (updK gj (fn, q) (.slice none 0 0)) (DonZ T C k) w5 := HS21.out.2.keeps hlow5 (hK5.mono (fun _ _ => trivial)) hm5 (fun k' q' hq' => .inl ⟨hq', by
              rw [zq50 _ _ (fun e => by
                injection e with e1 e2
                have := hq'.2.1
                have := HFN.out.1
                omega)]⟩)
            have hA5 := hK5.2 _ _ _ _ trivial (zq0 HS21.out.1 HJ.out.1)
            have hKo : Keeps (fun t => t ≠ 3) wz w5 := (HJ.out.2.2.trans (Keeps.below _ HS21.out.1)).trans (hK5.mono (fun _ _ => trivial))
            have HR5 := hidep (And.intro hA5 (And.intro hS5 hKo))
            clear hK5 hlow5 hS5 hA5 hKo hm5 hg5 p0 p1 p2 p3 p4 p5 hKb hdel
            go_wp2
            refine ⟨LoopI.mk rfl ⟨rfl, rfl, rfl, rfl, rfl, rfl, rfl, rfl, ⟨j + 1, _, by omega, by show Value.int _ _ = _; go_num, HR5.out.1, HR5.out.2.1⟩, HR5.out.2.2⟩, ?_⟩
            show qs.length - _ < qs.length - _
            simp [natI]; omega
          · have hji : ¬ (j : Int) < (qs.length : Int) := by omega
            go_wp2
            first
              | exact ⟨rfl, rfl, rfl, rfl, rfl, rfl, rfl, gj, HJ.out.2.1, HJ.out.1⟩
              | exact hMK _ _ ⟨rfl, rfl, rfl, rfl, rfl, rfl, rfl, gj, HJ.out.2.1, HJ.out.1⟩
        · have hfn2 : ¬ far < (n : Int) + 1 := hfn
          clear hfn
          go_wp2
          first
            | exact ⟨rfl, rfl, rfl, rfl, rfl, rfl, rfl, gi, HS1.out.1, HS1.out.2⟩
            | exact hMK _ _ ⟨rfl, rfl, rfl, rfl, rfl, rfl, rfl, gi, HS1.out.1, HS1.out.2⟩
      rintro ⟨tm18, ds⟩ X18 ⟨hts, hds, e1, e2, e5, e6, e7, hx18⟩
      simp only at hts hds e1 e2 e5 e6 e7
      subst hds
      ((try dsimp only [Exit.inBlock, Exit.then]); apply_assumption)
      rw [zq8b tm18 [] hts, e1, e2, e5, e6, e7]
      clear hts e1 e2 e5 e6 e7
      obtain ⟨g18, hS18, hA18⟩ := hx18
      have hac18 := zq5 hA18
      have HS18 := hidep hS18
      clear hS18 hA18 hac
      go_upto_region 5 with (fail)
      obtain ⟨A2, hA2⟩ : ∃ B, B = X18.heap.size := ⟨_, rfl⟩
      refine zq9 (fun X => Below X18.heap.size X18 X /\ X.heap[A2]? = some (.cells #[.int .i64 (k : Nat)] 3)) ⟨(Below.refl _ _).alloc (Nat.le_refl _) _, by rw [hA2]; exact heap_alloc_new _ _⟩ ?_
      rintro X19 ⟨hb19, hA19⟩
      rw [<- hA2]
      have hA2w : w.heap.size <= A2 := by rw [hA2]; exact HS18.out.low.size
      have HS19 := hidep (And.intro (HS18.out.below hb19) (And.intro hA19 hA2w))
      have hac19 := zq5 hA19
      have hfz19 : X19.frozen? ⟨A2, 0, none⟩ = false := zq1 hA19 0
      have hwk1 : IntKind.i64.wrap ((k : Int) - 1) = (k : Int) - 1 := IntWalk.i64_in _ (by omega)
      clear hA2 hb19 hA19 hA2w hac18
      go_wp2
      have hset := zq12 HS19.out.2.1 0 (.int .i64 ((k : Int) - 1))
      refine ⟨LoopI.mk rfl ⟨rfl, rfl, rfl, rfl, rfl, k, A2, N + ps.length, g18, by have := HN.out; omega, rfl, hset, HS19.out.2.2, by have := HNP.out; have := HN.out; omega, ?_⟩, ?_⟩
      · exact HS19.out.1.keeps (HS19.out.1.low.setCell (p := ⟨A2, 0, none⟩) HS19.out.2.2 _) (Keeps.setCell (a := ⟨A2, 0, none⟩) HS19.out.2.1 (fun t ht => ht) _) (HS19.out.1.mp.turned (T := fun x => x = A2) ((Turned.refl _ _).setCell ⟨A2, 0, none⟩ _ (.inr rfl)) (fun e => HS19.out.1.mp.no_cells _ _ _ (e ▸ HS19.out.2.1))) (fun _ _ hp => .inl ⟨hp, rfl⟩)
      · show muA (.pointer (some ⟨A2, 0, none⟩)) _ < muA (.pointer (some ⟨A, 0, none⟩)) _
        rw [muA_at hset, muA_at HSA.out]
        omega
  · have hkk0 : kk = 0 := by omega
    subst hkk0
    have hac2 : wr.cell? ⟨A, 0, none⟩ = some (.int .i64 (-1)) := by simpa using hac
    have hKb := zq5 HS.out.1.kb
    have hg0 := HS.out.1.got 0 pl0 ⟨Nat.le_refl _, Nat.zero_le _, Nat.zero_le _, live_first HT.out.2.2⟩
    obtain ⟨ga, gc, hgv, -, -⟩ := hg0.form
    have hlk : (Instr.lookup 155 (.map (some Mm)) (.agg #[.int .i64 0, .int .i64 0, .bool false, .bool false, .int .i64 0, .bool false]) false).run Tryz.prog wr = .ok (g (0, pl0)) wr :=
      HS.out.1.mp.lookup zqc4 (x := (0, pl0)) ⟨Nat.zero_le _, Nat.zero_le _, .inl rfl⟩
    have HG0 := hidep hg0
    have HLOW := hidep HS.out.1.low
    obtain ⟨gv, hgv2⟩ : ∃ x, x = g (0, pl0) := ⟨_, rfl⟩
    rw [<- hgv2] at hlk HG0
    clear hac hg0 hgv hgv2
    go_wp2
    go_ret
    exact ⟨_, rfl, HG0.out, HLOW.out⟩
end Go.Proofs.YtcfjepcflanjbaaGreat
