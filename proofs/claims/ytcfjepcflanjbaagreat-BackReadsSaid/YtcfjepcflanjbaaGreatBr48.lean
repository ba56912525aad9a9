/- The reference: code and place. -/
import Derived.Test.YtcfjepcflanjbaaGreatBr22
import Derived.Test.YtcfjepcflanjbaaGreatBr33
import Derived.Test.YtcfjepcflanjbaaGreatBr45
import Derived.Test.YtcfjepcflanjbaaGreatBr12
import Derived.Test.YtcfjepcflanjbaaGreatBr15
namespace Go.Proofs.YtcfjepcflanjbaaGreat
open Go.RowKit Go.Lab Go.Shelf
set_option maxRecDepth 100000
def codeN (p : PlZ) : Nat := p.st.lang.toNat + ((if p.st.num = true then 2 else 0) + ((if p.st.word = true then 4 else 0) + ((if p.sw = true then 8 else 0) + 16 * p.need)))
def plR (p : PlZ) : List Value := [.int .i64 p.st.lang, .bool p.st.num, .bool p.st.word, .int .i64 (p.need : Nat), .bool p.sw]
set_option maxHeartbeats 4000000 in
theorem codeR_any (p : PlZ) (hp : PlOk p) (w : World) : Calls Tryz.prog 84 #[.agg #[.int .i64 p.st.lang, .bool p.st.num, .bool p.st.word, .int .i64 (p.need : Nat), .bool p.sw]] w fun e w' => e = .returned (.int .i64 ((codeN p : Nat) : Int)) /\ Below w.heap.size w w' := by
  obtain ⟨⟨l, u, v⟩, d, s⟩ := p
  obtain ⟨h1, h2⟩ := hp
  simp only at h1 h2 ⊢
  obtain ⟨k, hk, hk2⟩ : ∃ k : Nat, l = (k : Int) /\ k < 2 := by
    rcases h1 with h | h
    · exact ⟨0, by simpa using h, by omega⟩
    · exact ⟨1, by simpa using h, by omega⟩
  subst hk
  have HZ := hidep (show codeN ⟨⟨(k : Int), u, v⟩, d, s⟩ = k + ((if u = true then 2 else 0) + ((if v = true then 4 else 0) + ((if s = true then 8 else 0) + 16 * d))) from by simp [codeN])
  have hb := (Below.refl w.heap.size w).alloc (Nat.le_refl _) (.cells #[.int .i64 (k : Nat), .bool u, .bool v, .int .i64 (d : Nat), .bool s] 141)
  have HB := hidep hb
  clear hb h1
  have w2 : IntKind.i64.wrap ((k : Int) + 2) = (k : Int) + 2 := IntWalk.i64_in _ (by omega)
  have w4 : IntKind.i64.wrap ((k : Int) + 4) = (k : Int) + 4 := IntWalk.i64_in _ (by omega)
  have w24 : IntKind.i64.wrap ((k : Int) + 2 + 4) = (k : Int) + 2 + 4 := IntWalk.i64_in _ (by omega)
  have w8 : IntKind.i64.wrap ((k : Int) + 8) = (k : Int) + 8 := IntWalk.i64_in _ (by omega)
  have w28 : IntKind.i64.wrap ((k : Int) + 2 + 8) = (k : Int) + 2 + 8 := IntWalk.i64_in _ (by omega)
  have w48 : IntKind.i64.wrap ((k : Int) + 4 + 8) = (k : Int) + 4 + 8 := IntWalk.i64_in _ (by omega)
  have w248 : IntKind.i64.wrap ((k : Int) + 2 + 4 + 8) = (k : Int) + 2 + 4 + 8 := IntWalk.i64_in _ (by omega)
  have wd : IntKind.i64.wrap (16 * (d : Int)) = 16 * (d : Int) := IntWalk.i64_in _ (by omega)
  cases u <;> cases v <;> cases s
  all_goals
    go_enter Tryz.func84, Tryz.ntmps84
    go_wp2
    go_ret
    refine ⟨zqb (congrArg (Value.int .i64) ?_), HB.out⟩
    rw [HZ.out]
    simp
    first | omega | (rw [IntWalk.i64_in _ (by omega)]; omega) | skip
end Go.Proofs.YtcfjepcflanjbaaGreat
/- Plain: the greatest beginning told by what is reached; a place by its number. -/
namespace Go.Proofs.YtcfjepcflanjbaaGreat
open Go.RowKit Go.Lab Go.Shelf
theorem gdM_ge (C : List Int) (k : Nat) : ∀ (ms : List MvZ) (a : Nat), a <= ms.foldl (gdM C k) a /\ ∀ m ∈ ms, k + comm (C.drop k) m.cells <= ms.foldl (gdM C k) a
  | [], a => ⟨Nat.le_refl _, fun _ h => by cases h⟩
  | m :: ms, a => by
    have h := gdM_ge C k ms (gdM C k a m)
    have h1 : a <= gdM C k a m := Nat.le_max_left _ _
    have h2 : k + comm (C.drop k) m.cells <= gdM C k a m := Nat.le_max_right _ _
    refine ⟨Nat.le_trans h1 h.1, fun x hx => ?_⟩
    rcases List.mem_cons.1 hx with rfl | hx
    · exact Nat.le_trans h2 h.1
    · exact h.2 x hx
theorem gdM_at (C : List Int) (k : Nat) : ∀ (ms : List MvZ) (a : Nat), ms.foldl (gdM C k) a = a \/ ∃ m ∈ ms, ms.foldl (gdM C k) a = k + comm (C.drop k) m.cells
  | [], a => .inl rfl
  | m :: ms, a => by
    rcases gdM_at C k ms (gdM C k a m) with h | ⟨x, hx, h⟩
    · rw [List.foldl_cons, h]
      rcases Nat.le_total a (k + comm (C.drop k) m.cells) with g | g
      · exact .inr ⟨m, by simp, Nat.max_eq_right g⟩
      · exact .inl (Nat.max_eq_left g)
    · exact .inr ⟨x, by simp [hx], h⟩
theorem gdRow_ge (T : TabZ) (C : List Int) (k : Nat) : ∀ (ps : List PlZ) (a : Nat), a <= gdRow T C k a ps /\ ∀ p ∈ ps, ∀ m ∈ zqa T p, k + comm (C.drop k) m.cells <= gdRow T C k a ps
  | [], a => ⟨Nat.le_refl _, fun _ h => by cases h⟩
  | p :: ps, a => by
    have h := gdRow_ge T C k ps (gdP T C k a p)
    have h1 := gdM_ge C k (zqa T p) a
    refine ⟨Nat.le_trans h1.1 h.1, fun x hx m hm => ?_⟩
    rcases List.mem_cons.1 hx with rfl | hx
    · exact Nat.le_trans (h1.2 m hm) h.1
    · exact h.2 x hx m hm
theorem gdRow_at (T : TabZ) (C : List Int) (k : Nat) : ∀ (ps : List PlZ) (a : Nat), gdRow T C k a ps = a \/ ∃ p ∈ ps, ∃ m ∈ zqa T p, gdRow T C k a ps = k + comm (C.drop k) m.cells
  | [], a => .inl rfl
  | p :: ps, a => by
    rcases gdRow_at T C k ps (gdP T C k a p) with h | ⟨x, hx, m, hm, h⟩
    · rcases gdM_at C k (zqa T p) a with g | ⟨m, hm, g⟩
      · exact .inl (h.trans g)
      · exact .inr ⟨p, by simp, m, hm, h.trans g⟩
    · exact .inr ⟨x, by simp [hx], m, hm, h⟩
theorem goodTo_ge (T : TabZ) (C : List Int) (ls : List (List PlZ)) : ∀ n k, k < n -> ∀ p ∈ ls.getD k [], ∀ m ∈ zqa T p, k + comm (C.drop k) m.cells <= zq5c T C ls n
  | 0, _, hk => by omega
  | n + 1, k, hk => fun p hp m hm => by
    have h := gdRow_ge T C n (ls.getD n []) (zq5c T C ls n)
    rcases (by omega : k = n \/ k < n) with rfl | hk2
    · exact h.2 p hp m hm
    · exact Nat.le_trans (goodTo_ge T C ls n k hk2 p hp m hm) h.1
theorem goodTo_at (T : TabZ) (C : List Int) (ls : List (List PlZ)) : ∀ n, zq5c T C ls n = 0 \/ ∃ k, k < n /\ ∃ p ∈ ls.getD k [], ∃ m ∈ zqa T p, zq5c T C ls n = k + comm (C.drop k) m.cells
  | 0 => .inl rfl
  | n + 1 => by
    rcases gdRow_at T C n (ls.getD n []) (zq5c T C ls n) with h | ⟨p, hp, m, hm, h⟩
    · rcases goodTo_at T C ls n with g | ⟨k, hk, p, hp, m, hm, g⟩
      · exact .inl (h.trans g)
      · exact .inr ⟨k, by omega, p, hp, m, hm, h.trans g⟩
    · exact .inr ⟨n, by omega, p, hp, m, hm, h⟩
structure IsGood (T : TabZ) (C : List Int) (g : Nat) : Prop where
  ge : ∀ k p m, k <= C.length -> Reach T C k p -> m ∈ zqa T p -> k + comm (C.drop k) m.cells <= g
  at_ : g = 0 \/ ∃ k p m, k <= C.length /\ Reach T C k p /\ m ∈ zqa T p /\ g = k + comm (C.drop k) m.cells
theorem goodZ_is {T : TabZ} {C : List Int} (hv : zq8 T = 0) : IsGood T C (goodZ T C) where
  ge := fun k p m hk hp hm => goodTo_ge T C (liveZ T C) (C.length + 1) k (by omega) p ((live_reach hv hk).2 hp) m hm
  at_ := by
    rcases goodTo_at T C (liveZ T C) (C.length + 1) with h | ⟨k, hk, p, hp, m, hm, h⟩
    · exact .inl h
    · exact .inr ⟨k, p, m, by omega, (live_reach hv (by omega)).1 hp, hm, h⟩
theorem IsGood.le {T : TabZ} {C : List Int} {g h : Nat} (hg : IsGood T C g) (hh : IsGood T C h) : g <= h := by
  rcases hg.at_ with e | ⟨k, p, m, hk, hp, hm, e⟩
  · omega
  · exact e ▸ hh.ge k p m hk hp hm
theorem IsGood.one {T : TabZ} {C : List Int} {g h : Nat} (hg : IsGood T C g) (hh : IsGood T C h) : g = h := Nat.le_antisymm (hg.le hh) (hh.le hg)
/-! ### a place by its number -/
def zq15 (n : Nat) : PlZ := ⟨⟨((n % 2 : Nat) : Int), n / 2 % 2 == 1, n / 4 % 2 == 1⟩, n / 16, n / 8 % 2 == 1⟩
theorem zq95 {n : Nat} (h : n < 48) : PlOk (zq15 n) := by
  refine ⟨?_, by show n / 16 <= 2; omega⟩
  show ((n % 2 : Nat) : Int) = 0 \/ ((n % 2 : Nat) : Int) = 1
  omega
theorem zqa5 {p : PlZ} (h : PlOk p) : codeN p < 48 := by
  obtain ⟨⟨l, u, v⟩, n, s⟩ := p
  obtain ⟨h1, h2⟩ := h
  simp only at h1 h2
  unfold codeN
  simp only
  have : l.toNat <= 1 := by omega
  split <;> split <;> split <;> omega
theorem zq72 {p : PlZ} (h : PlOk p) : zq15 (codeN p) = p := by
  obtain ⟨⟨l, u, v⟩, n, s⟩ := p
  obtain ⟨h1, h2⟩ := h
  simp only at h1 h2
  have h3 : n = 0 \/ n = 1 \/ n = 2 := by omega
  rcases h1 with rfl | rfl <;> rcases h3 with rfl | rfl | rfl <;> cases u <;> cases v <;> cases s <;> decide
end Go.Proofs.YtcfjepcflanjbaaGreat
/- The reference's known texts in memory: a row of rows of lists of texts. -/
namespace Go.Proofs.YtcfjepcflanjbaaGreat
open Go.RowKit Go.Lab Go.Shelf
set_option maxRecDepth 100000
theorem slT4 : SlT Tryz.prog 160 161 (.slice none 0 0) 1 24 := ⟨by kernel_rfl, by kernel_rfl, rfl, by decide⟩
theorem slT3 : SlT Tryz.prog 161 42 (.slice none 0 0) 1 24 := ⟨by kernel_rfl, by kernel_rfl, rfl, by decide⟩
def TyT (t : TypeId) : Prop := t = 31 \/ t = 39
theorem SymssAt.keepsT {w w' : World} {v : Value} {l : List (List Sym)} (h : SymssAt w v l) (hk : Keeps TyT w w') : SymssAt w' v l := by
  obtain ⟨us, hl, hr, hs⟩ := h
  exact ⟨us, hl, Rd.keeps hr (hk.mono (by rintro t rfl; exact .inl rfl)), fun i a b => (hs i a b).keeps hk (.inr rfl)⟩
def KRow (T : TabZ) (C : List Int) (most a kk R : Nat) (W : World) : Prop :=
  ∃ cur, W.heap[R]? = some (.cells cur 42) /\ cur.size = 48 /\ ∀ k, k < kk -> ∃ u, cur[k]? = some u /\ SymssAt W u (txtZ T C most a (zq15 k))
theorem KRow.below {T : TabZ} {C : List Int} {most a kk R : Nat} {W W' : World} (h : KRow T C most a kk R W) (hb : Below W.heap.size W W') : KRow T C most a kk R W' := by
  obtain ⟨cur, h1, h2, h3⟩ := h
  refine ⟨cur, zq0 hb h1, h2, fun k hk => ?_⟩
  obtain ⟨u, e, hu⟩ := h3 k hk
  exact ⟨u, e, hu.below hb⟩
theorem KRow.low {T : TabZ} {C : List Int} {most a kk kk' R : Nat} {W : World} (h : KRow T C most a kk R W) (hk : kk' <= kk) : KRow T C most a kk' R W := by
  obtain ⟨cur, h1, h2, h3⟩ := h
  exact ⟨cur, h1, h2, fun k hk' => h3 k (by omega)⟩
theorem KRow.other {T : TabZ} {C : List Int} {most a kk R : Nat} {W : World} {ad : Addr} {cur0 : Array Value} {e : TypeId} {fz : Nat × Nat} (h : KRow T C most a kk R W) (hb : W.heap[ad.block]? = some (.cells cur0 e fz)) (he : ¬ TyT e) (hne : R ≠ ad.block) (v : Value) : KRow T C most a kk R (W.setCell ad v) := by
  obtain ⟨cur, h1, h2, h3⟩ := h
  refine ⟨cur, (Below.heap_setCell W ad v R hne).trans h1, h2, fun k hk => ?_⟩
  obtain ⟨u, e', hu⟩ := h3 k hk
  exact ⟨u, e', hu.keepsT (Keeps.setCell hb (fun t ht e2 => he (e2 ▸ ht)) v)⟩
theorem nTy3 : ¬ TyT 161 := by unfold TyT; decide
theorem nTyS : ¬ TyT 42 := by unfold TyT; decide
theorem KRow.set {T : TabZ} {C : List Int} {most a kk R : Nat} {W : World} {u : Value} (h : KRow T C most a kk R W) (hk : kk < 48) (hu : SymssAt W u (txtZ T C most a (zq15 kk))) : KRow T C most a (kk + 1) R (W.setCell ⟨R, kk, none⟩ u) := by
  obtain ⟨cur, h1, h2, h3⟩ := h
  have hks : Keeps TyT W (W.setCell ⟨R, kk, none⟩ u) := Keeps.setCell (a := ⟨R, kk, none⟩) h1 (fun t ht e2 => nTyS (e2 ▸ ht)) u
  refine ⟨cur.setIfInBounds kk u, zq12 h1 kk u, by simp [h2], fun k hk' => ?_⟩
  by_cases e : k = kk
  · subst e
    exact ⟨u, by simp [h2, hk], hu.keepsT hks⟩
  · obtain ⟨x, ex, hx⟩ := h3 k (by omega)
    refine ⟨x, ?_, hx.keepsT hks⟩
    rw [Array.getElem?_setIfInBounds_ne (Ne.symm e)]
    exact ex
def KAll (T : TabZ) (C : List Int) (most Kb n lo : Nat) (W : World) : Prop :=
  ∃ cur, W.heap[Kb]? = some (.cells cur 161) /\ cur.size = n + 1 /\ ∀ a, lo <= a -> a <= n -> ∃ R, cur[a]? = some (.slice (some ⟨R, 0, none⟩) 48 48) /\ KRow T C most a (if a = 0 then 1 else 48) R W
def KMid (T : TabZ) (C : List Int) (most Kb n e R : Nat) (W : World) : Prop :=
  ∃ cur, W.heap[Kb]? = some (.cells cur 161) /\ cur.size = n + 1 /\ cur[e]? = some (.slice (some ⟨R, 0, none⟩) 48 48) /\ ∀ a, e < a -> a <= n -> ∃ R', cur[a]? = some (.slice (some ⟨R', 0, none⟩) 48 48) /\ R' ≠ R /\ KRow T C most a 48 R' W
theorem KMid.below {T : TabZ} {C : List Int} {most Kb n e R : Nat} {W W' : World} (h : KMid T C most Kb n e R W) (hb : Below W.heap.size W W') : KMid T C most Kb n e R W' := by
  obtain ⟨cur, h1, h2, h3, h4⟩ := h
  refine ⟨cur, zq0 hb h1, h2, h3, fun a ha hn => ?_⟩
  obtain ⟨R', e1, e2, e3⟩ := h4 a ha hn
  exact ⟨R', e1, e2, e3.below hb⟩
theorem KMid.start {T : TabZ} {C : List Int} {most Kb n e R : Nat} {W : World} (h : KAll T C most Kb n (e + 1) W) (he : e <= n) (hR : W.heap.size <= R) : KMid T C most Kb n e R (W.setCell ⟨Kb, e, none⟩ (.slice (some ⟨R, 0, none⟩) 48 48)) := by
  obtain ⟨cur, h1, h2, h3⟩ := h
  refine ⟨cur.setIfInBounds e (.slice (some ⟨R, 0, none⟩) 48 48), zq12 h1 e _, by simp [h2], by simp [h2, show e < n + 1 by omega], fun a ha hn => ?_⟩
  obtain ⟨R', e1, e2⟩ := h3 a (by omega) hn
  rw [if_neg (by omega)] at e2
  have hKR : R' ≠ Kb := fun e' => by
    obtain ⟨c2, h4, -⟩ := e2
    rw [e', h1] at h4
    injection h4 with h4
    injection h4 with _ h5 _
    exact absurd h5 (by decide)
  have hRR : R' ≠ R := fun e' => by
    obtain ⟨c2, h4, -⟩ := e2
    have := lt_of_block h4
    omega
  refine ⟨R', ?_, hRR, e2.other (ad := ⟨Kb, e, none⟩) h1 nTy3 hKR _⟩
  rw [Array.getElem?_setIfInBounds_ne (by omega)]
  exact e1
theorem KMid.set {T : TabZ} {C : List Int} {most Kb n e R kk : Nat} {W : World} {cr : Array Value} (h : KMid T C most Kb n e R W) (hR : W.heap[R]? = some (.cells cr 42)) (u : Value) : KMid T C most Kb n e R (W.setCell ⟨R, kk, none⟩ u) := by
  obtain ⟨cur, h1, h2, h3, h4⟩ := h
  have hKR : Kb ≠ R := fun e' => by
    rw [e', hR] at h1
    injection h1 with h1
    injection h1 with _ h5 _
    exact absurd h5 (by decide)
  refine ⟨cur, (Below.heap_setCell W ⟨R, kk, none⟩ u Kb hKR).trans h1, h2, h3, fun a ha hn => ?_⟩
  obtain ⟨R', e1, e2, e3⟩ := h4 a ha hn
  exact ⟨R', e1, e2, e3.other (ad := ⟨R, kk, none⟩) hR nTyS e2 _⟩
theorem KMid.done {T : TabZ} {C : List Int} {most Kb n e R : Nat} {W : World} (h : KMid T C most Kb n e R W) (hr : KRow T C most e (if e = 0 then 1 else 48) R W) : KAll T C most Kb n e W := by
  obtain ⟨cur, h1, h2, h3, h4⟩ := h
  refine ⟨cur, h1, h2, fun a ha hn => ?_⟩
  by_cases e' : a = e
  · subst e'
    exact ⟨R, h3, hr⟩
  · obtain ⟨R', e1, -, e3⟩ := h4 a (by omega) hn
    refine ⟨R', e1, ?_⟩
    rw [if_neg (by omega)]
    exact e3
theorem mvsC_get : ∀ (l : List MvZ) (us : List (Value × Value)) (i j : Nat) (h : i < l.length) (h' : i < us.length), j < 7 -> (mvsC l us)[i * 7 + j]? = (mvC l[i] us[i])[j]?
  | [], _, _, _, h, _, _ => by simp at h
  | _ :: _, [], _, _, _, h, _ => by simp at h
  | a :: l, b :: us, 0, j, _, _, hj => by
    rw [mvsC, Nat.zero_mul, Nat.zero_add, List.getElem?_append_left (by simp [mvC]; omega)]
    rfl
  | a :: l, b :: us, i + 1, j, h, h', hj => by
    have := mvsC_get l us i j (by simpa using h) (by simpa using h') hj
    rw [mvsC, List.getElem?_append_right (by simp [mvC]; omega)]
    simp only [mvC, List.length_cons, List.length_nil, List.getElem_cons_succ]
    rw [show (i + 1) * 7 + j - (0 + 1 + 1 + 1 + 1 + 1 + 1 + 1) = i * 7 + j from by omega]
    exact this
theorem mv_at {base bd : Nat} {lang : Int} {W : World} {a : Option Addr} {c : Nat} {ms : List MvZ} (h : MvR base bd lang W (.slice a ms.length c) ms) {i : Nat} (hi : i < ms.length) :
    ∃ b off c1 n1 k1 c2 n2 k2, a = some ⟨b, off, none⟩ /\ b < W.heap.size /\ W.rangeAt b (off + i * 7) (mvC ms[i] (.slice c1 n1 k1, .slice c2 n2 k2)) /\ BysAt W (.slice c1 n1 k1) ms[i].cells /\ SymsAt W (.slice c2 n2 k2) (zq1b lang ms[i].text ms[i].cap) := by
  obtain ⟨us, h1, h2, h3⟩ := h
  have hi' : i < us.length := by omega
  have hd := (h3 i hi hi').here
  obtain ⟨c1, k1, e1, -, -⟩ := hd.1.1.form
  obtain ⟨c2, k2, e2, -, -⟩ := hd.2.form
  obtain ⟨b, off, e, hb, hc⟩ := Rd.at (Rd.of_own h2) (by omega)
  refine ⟨b, off, c1, _, k1, c2, _, k2, e, hb, fun j x hx => ?_, by rw [<- e1]; exact hd.1, by rw [<- e2]; exact hd.2⟩
  have hj : j < 7 := by
    have := (List.getElem?_eq_some_iff.1 hx).1
    simpa [mvC] using this
  rw [Nat.add_assoc]
  apply hc
  rw [<- e1, <- e2] at hx
  rw [mvsC_get ms us i j hi hi' hj]
  exact hx
end Go.Proofs.YtcfjepcflanjbaaGreat
/- The reference: a text before another. -/
namespace Go.Proofs.YtcfjepcflanjbaaGreat
open Go.RowKit Go.Lab Go.Shelf
set_option maxRecDepth 100000
def befZ (a b : List Sym) : Bool := zq13 a b == -1
set_option maxHeartbeats 2000000 in
theorem before_any (va vb : Value) (a b : List Sym) (w : World) (ha : SymsAt w va a) (hb : SymsAt w vb b) : Calls Tryz.prog 134 #[va, vb] w fun e w' => e = .returned (.bool (befZ a b)) /\ Below w.heap.size w w' := by
  obtain ⟨aa, ac, rfl, hac, ham⟩ := ha.form
  obtain ⟨ba, bc, rfl, hbc, hbm⟩ := hb.form
  unfold maxLen at ham hbm
  have HA := hidep ha
  have HB := hidep hb
  clear ha hb
  go_enter Tryz.func134, Tryz.ntmps134
  go_upto_region 2 with (fail)
  go_loopw [5] (fun i wr => ∃ k : Nat, k <= a.length /\ k <= b.length /\ i = .int .i64 k /\ Hid (zq13 a b = zq13 (a.drop k) (b.drop k)) /\ Below w.heap.size w wr) (fun i _ => a.length - (intOf i).toNat)
  case atStart => exact ⟨0, Nat.zero_le _, Nat.zero_le _, rfl, hidep rfl, Below.refl _ _⟩
  case round =>
    obtain ⟨k, hk, hk2, rfl, HE, hbw⟩ := hrel
    have HBW := hidep hbw
    by_cases hka : k < a.length
    · obtain ⟨ab, ao, rfl, hab, x0, x1⟩ := (HA.out.below hbw).at hka
      have hki : (k : Int) < (a.length : Int) := by omega
      have hk0 : (0 : Int) <= (k : Int) := by omega
      by_cases hkb : k < b.length
      · obtain ⟨bb, bo, rfl, hbb, y0, y1⟩ := (HB.out.below hbw).at hkb
        have hkbj : (k : Int) < (b.length : Int) := by omega
        have HT := hidep (textCmp_at hka hkb)
        have HS := hidep (zq30 a[k] b[k])
        obtain ⟨x, hx⟩ : ∃ x, x = a[k] := ⟨_, rfl⟩
        obtain ⟨y, hy⟩ : ∃ y, y = b[k] := ⟨_, rfl⟩
        rw [<- hx] at x0 x1 HT HS
        rw [<- hy] at y0 y1 HT HS
        clear hx hy hbw
        go_upto_region 4 with (fail)
        by_cases hl : x.lang = y.lang
        · have hl1 : (x.lang != y.lang) = false := by simp [hl]
          by_cases hc : x.c = y.c
          · have hc1 : (x.c != y.c) = false := by simp [hc]
            have HE2 := hidep (HE.out.trans (HT.out.trans (if_neg (fun h => h (by rcases HS.out with ⟨_, g⟩ | ⟨g, _⟩ | ⟨_, g⟩ <;> first | exact g | omega)))))
            clear hl hc
            go_quiet (fail)
            (try dsimp only [Exit.inBlock, Exit.then])
            try apply_assumption
            go_upto_region 6 with (fail)
            go_quiet (fail)
            (try dsimp only [Exit.inBlock, Exit.then])
            try apply_assumption
            go_wp2
            go_roundw
            case rel => exact ⟨k + 1, by omega, by omega, by go_num, HE2, by first | exact zq6 HBW.out _ | exact zq6 (zq6 HBW.out _) _ | exact zq6 (zq6 (zq6 HBW.out _) _) _⟩
            case measure => simp [intOf]; omega
          · have hc1 : (x.c != y.c) = true := by simp [hc]
            have HE2 := hidep (show decide (x.c < y.c) = befZ a b from by
              unfold befZ
              rw [HE.out, HT.out]
              rcases HS.out with ⟨g, h⟩ | ⟨g, h⟩ | ⟨g, h⟩
              · rw [if_pos (by omega), g]; simp; omega
              · exact (hc (by rw [h])).elim
              · rw [if_pos (by omega), g]; simp; omega)
            clear hl hc
            go_quiet (fail)
            (try dsimp only [Exit.inBlock, Exit.then])
            try apply_assumption
            go_upto_region 6 with (fail)
            go_quiet (fail)
            (try dsimp only [Exit.inBlock, Exit.then])
            try apply_assumption
            go_upto_region 7 with (fail)
            go_quiet (fail)
            (try dsimp only [Exit.inBlock, Exit.then])
            try apply_assumption
            go_wp2
            go_ret
            exact ⟨zqb (congrArg Value.bool HE2.out), by first | exact zq6 HBW.out _ | exact zq6 (zq6 HBW.out _) _ | exact zq6 (zq6 (zq6 HBW.out _) _) _⟩
        · have hl1 : (x.lang != y.lang) = true := by simp [hl]
          have HE2 := hidep (show decide (x.lang < y.lang) = befZ a b from by
            unfold befZ
            rw [HE.out, HT.out]
            rcases HS.out with ⟨g, h⟩ | ⟨g, h⟩ | ⟨g, h⟩
            · rw [if_pos (by omega), g]; simp; omega
            · exact (hl (by rw [h])).elim
            · rw [if_pos (by omega), g]; simp; omega)
          clear hl
          go_quiet (fail)
          (try dsimp only [Exit.inBlock, Exit.then])
          try apply_assumption
          go_upto_region 5 with (fail)
          go_quiet (fail)
          (try dsimp only [Exit.inBlock, Exit.then])
          try apply_assumption
          go_wp2
          go_ret
          exact ⟨zqb (congrArg Value.bool HE2.out), by first | exact zq6 HBW.out _ | exact zq6 (zq6 HBW.out _) _ | exact zq6 (zq6 (zq6 HBW.out _) _) _⟩
      · have hkbj : ¬ (k : Int) < (b.length : Int) := by omega
        have HR := hidep (show decide (a.length < b.length) = befZ a b from by
          unfold befZ
          rw [HE.out, textCmp_more hka (by omega)]
          simp; omega)
        clear hbw
        go_wp2
        go_ret
        exact ⟨zqb (congrArg Value.bool HR.out), HBW.out⟩
    · have hki : ¬ (k : Int) < (a.length : Int) := by omega
      have HR := hidep (show decide (a.length < b.length) = befZ a b from by
        unfold befZ
        rw [HE.out, textCmp_end (by omega) hk]
        split
        · simp; omega
        · simp; omega)
      clear hbw
      go_wp2
      go_ret
      exact ⟨zqb (congrArg Value.bool HR.out), HBW.out⟩
end Go.Proofs.YtcfjepcflanjbaaGreat
