/- Plain: what the maker of tables makes is valid. -/
import Derived.Test.YtcfjepcflanjbaaGreatBr39
import Derived.Test.YtcfjepcflanjbaaGreatBr12
import Derived.Test.YtcfjepcflanjbaaGreatBr07
import Derived.Test.YtcfjepcflanjbaaGreatBr02
import Derived.Test.YtcfjepcflanjbaaGreatBr24
namespace Go.Proofs.YtcfjepcflanjbaaGreat
open Go.RowKit Go.Lab Go.Shelf
set_option maxRecDepth 100000
theorem zqa9 (l : List RuleZ) : onceZ l = zq24 l l.length := by unfold zq24; rw [List.take_length]
theorem zqbc {a b : RuleZ} : sameR a b = true ↔ a.text = b.text /\ a.wh = b.wh := by
  unfold sameR
  simp
theorem sameR_comm (a b : RuleZ) : sameR a b = sameR b a := by
  rw [Bool.eq_iff_iff, zqbc, zqbc]
  exact ⟨fun h => ⟨h.1.symm, h.2.symm⟩, fun h => ⟨h.1.symm, h.2.symm⟩⟩
theorem once_has (l : List RuleZ) : ∀ k, k <= l.length -> ∀ r ∈ l.take k, ∃ r' ∈ zq24 l k, r'.text = r.text /\ r'.wh = r.wh
  | 0, _, r, hr => by simp at hr
  | k + 1, h, r, hr => by
    rw [List.take_succ_eq_append_getElem (by omega)] at hr
    rw [zq66 (by omega)]
    rcases List.mem_append.1 hr with hr | hr
    · obtain ⟨x, hx, e⟩ := once_has l k (by omega) r hr
      split
      · exact ⟨x, List.mem_append_left _ hx, e⟩
      · exact ⟨x, hx, e⟩
    · rw [List.mem_singleton] at hr
      split
      · exact ⟨l[k], by simp, by rw [hr], by rw [hr]⟩
      · rename_i hf
        have h2 : ∃ o ∈ zq24 l k, sameR o l[k] = true := by
          refine Decidable.byContradiction fun hn => hf ?_
          unfold zq3a
          rw [List.all_eq_true]
          intro o ho
          cases e : sameR o l[k] with
          | false => rfl
          | true => exact absurd ⟨o, ho, e⟩ hn
        obtain ⟨o, ho, e⟩ := h2
        have e2 := zqbc.1 e
        exact ⟨o, ho, by rw [hr]; exact e2.1, by rw [hr]; exact e2.2⟩
theorem once_noTw (l : List RuleZ) : ∀ k, k <= l.length -> ∀ i, i < (zq24 l k).length -> NoTw (zq24 l k) i
  | 0, _, i, hi => by simp [zq24, onceZ, onceG] at hi
  | k + 1, h, i, hi => by
    have ih := once_noTw l k (by omega)
    rw [zq66 (by omega)] at hi ⊢
    split at hi
    · rename_i hf
      rw [if_pos hf]
      intro j hj
      by_cases hi2 : i < (zq24 l k).length
      · have h1 := ih i hi2 j hj
        rw [List.getD_eq_getElem?_getD, List.getD_eq_getElem?_getD] at h1 ⊢
        rw [List.getElem?_append_left hi2, List.getElem?_append_left (by omega)]
        exact h1
      · have hie : i = (zq24 l k).length := by simp at hi; omega
        have hjl : j < (zq24 l k).length := by omega
        rw [List.getD_eq_getElem?_getD, List.getD_eq_getElem?_getD, hie, List.getElem?_append_right (Nat.le_refl _), List.getElem?_append_left hjl, Nat.sub_self, List.getElem?_eq_getElem hjl]
        show sameR l[k] (zq24 l k)[j] = false
        unfold zq3a at hf
        have h2 := List.all_eq_true.1 hf _ (List.getElem_mem (show j < (zq24 l k).length by omega))
        rw [sameR_comm]
        simpa using h2
    · rename_i hf
      rw [if_neg hf]
      exact ih i hi
theorem byts_ltt : ∀ i : Fin 26, byts (lttB i.val) = [97 + (i.val : Int)] := by decide +kernel
theorem made_own {L : List RuleZ} (h : MadeO L) : zq23.all (ownB L) = true := by
  obtain ⟨L', rfl, hl, hr, ha, hm⟩ := h
  rw [List.all_eq_true]
  intro c hc
  unfold zq23 at hc
  obtain ⟨k, hk, rfl⟩ := List.mem_map.1 hc
  have hk2 := List.mem_range.1 hk
  obtain ⟨r, hr1, hr2, hr3⟩ := ha k hk2
  obtain ⟨x, hx, e1, e2⟩ := once_has L' L'.length (Nat.le_refl _) r (by rw [List.take_length]; exact hr1)
  unfold ownB
  rw [List.any_eq_true]
  refine ⟨x, by rw [zqa9]; exact hx, ?_⟩
  rw [e1, hr2, e2, hr3, byts_ltt ⟨k, hk2⟩]
  simp
theorem zqb7 {L : List RuleZ} (h : MadeO L) : L.all zqf = true := by
  obtain ⟨L', rfl, hl, hr, ha, hm⟩ := h
  rw [List.all_eq_true]
  intro x hx
  rw [zqa9] at hx
  exact hr x (zqb4 L' _ (Nat.le_refl _) x hx)
theorem zq78 {L : List RuleZ} (h : MadeO L) : L.length <= 90 := by
  obtain ⟨L', rfl, hl, hr, ha, hm⟩ := h
  rw [zqa9]
  exact Nat.le_trans (zqb2 L' _ (Nat.le_refl _)) hl
theorem made_twice {L : List RuleZ} (h : MadeO L) : zq22 L = false := by
  obtain ⟨L', rfl, hl, hr, ha, hm⟩ := h
  rw [zqa9]
  exact zq9c (once_noTw L' _ (Nat.le_refl _))
theorem valid_made {T : TabZ} (h : TabG T) : zq8 T = 0 := by
  unfold zq8
  have h0 := zq78 h.l0
  have h1 := zq78 h.l1
  rw [if_neg (by omega), zqb7 h.l0, zqb7 h.l1, h.dg, h.cp, h.nm, h.en, h.sw, if_neg (by decide), made_twice h.l0, made_twice h.l1, if_neg (by decide), made_own h.l0, made_own h.l1, if_neg (by decide)]
end Go.Proofs.YtcfjepcflanjbaaGreat
/- Plain: what the laws about reading back want of generated texts and tables. -/
namespace Go.Proofs.YtcfjepcflanjbaaGreat
open Go.RowKit Go.Lab Go.Shelf
set_option maxRecDepth 100000
def SymG (x : Sym) : Prop := (x.lang = 0 \/ x.lang = 1) /\ 0 <= x.c /\ x.c < 256
theorem bytesL_rng (s : ByteArray) : ∀ x ∈ zq43 s, 0 <= x /\ x < 256 := by
  intro x hx
  unfold zq43 at hx
  obtain ⟨b, _, rfl⟩ := List.mem_map.1 hx
  have := b.toNat_lt
  omega
theorem zqc9 {lang n : Int} (h : lang = 0 \/ lang = 1) : langN lang n = 0 \/ langN lang n = 1 := by
  unfold langN
  split <;> omega
theorem stepO_ok {out : List Sym} {lang n : Int} (h : ∀ x ∈ out, SymG x) (hl : lang = 0 \/ lang = 1) : ∀ x ∈ stepO out lang n, SymG x := by
  have hn : SymG (⟨langN lang n, charN n⟩ : Sym) := ⟨zqc9 hl, by have := charN_rng n; simp only; omega, by have := charN_rng n; simp only; omega⟩
  intro x hx
  unfold stepO addW at hx
  split at hx
  · rcases List.mem_append.1 hx with hx | hx
    · rcases List.mem_append.1 hx with hx | hx
      · exact h x hx
      · rw [List.mem_singleton] at hx
        exact hx ▸ hn
    · obtain ⟨c, hc, rfl⟩ := List.mem_map.1 hx
      exact ⟨zqc9 hl, bytesL_rng _ _ (List.mem_of_mem_take hc)⟩
  · rcases List.mem_append.1 hx with hx | hx
    · exact h x hx
    · rw [List.mem_singleton] at hx
      exact hx ▸ hn
theorem symsRun_ok : ∀ (l : List Int) (out : List Sym) (lang : Int), (∀ x ∈ out, SymG x) -> (lang = 0 \/ lang = 1) -> ∀ x ∈ zq46 l out lang, SymG x
  | [], out, _, h, _ => h
  | x :: xs, out, lang, h, hl => by
    rw [zq46]
    split
    · exact h
    · exact symsRun_ok xs _ _ (stepO_ok h hl) (zqc9 hl)
theorem symsZ_ok (l : List Int) : ∀ x ∈ symsZ l, SymG x := symsRun_ok l [] 0 (by simp) (.inl rfl)
theorem symsZ_SymOk (l : List Int) : SymOk (symsZ l) := fun x hx => by
  obtain ⟨h1, h2, h3⟩ := symsZ_ok l x hx
  exact ⟨h2, h3, by omega, by omega⟩
theorem symsZ_lang (l : List Int) : ∀ x ∈ symsZ l, x.lang = 0 \/ x.lang = 1 := fun x hx => (symsZ_ok l x hx).1
theorem made_ok {L : List RuleZ} (h : MadeO L) : ∀ r ∈ L, zq3e r := fun r hr => by
  have := List.all_eq_true.1 (zqb7 h) r hr
  unfold zqf at this
  simp only [Bool.and_eq_true, decide_eq_true_eq] at this
  exact ⟨by omega, by omega, by omega⟩
theorem tabG_ok {T : TabZ} (h : TabG T) : TabOk T := ⟨made_ok h.l0, made_ok h.l1, by have := zq78 h.l0; omega, by have := zq78 h.l1; omega⟩
theorem tabG_dg {T : TabZ} (h : TabG T) : 0 < T.dg.length /\ T.dg.length <= 1000 := by
  have := h.dg
  unfold zqc at this
  simp only [Bool.and_eq_true, decide_eq_true_eq] at this
  omega
end Go.Proofs.YtcfjepcflanjbaaGreat
/- Contract: the maker of cells: a translation of a text that numbers choose. -/
namespace Go.Proofs.YtcfjepcflanjbaaGreat
open Go.RowKit Go.Lab Go.Shelf
set_option maxRecDepth 100000
theorem isF_mono {T : TabZ} {l : List Sym} : ∀ (f : Nat) (st : StZ) (i : Nat) (C : List Int), isF T l f st i C = true -> isF T l (f + 1) st i C = true
  | 0, _, _, _, h => by cases h
  | f + 1, st, i, C, h => by
    unfold isF at h ⊢
    split
    · rename_i hi
      rw [if_pos hi] at h
      exact h
    · rename_i hi
      rw [if_neg hi] at h
      obtain ⟨s, hs, h2⟩ := List.any_eq_true.1 h
      refine List.any_eq_true.2 ⟨s, hs, ?_⟩
      simp only [Bool.and_eq_true] at h2 ⊢
      exact ⟨h2.1, isF_mono f _ _ _ h2.2⟩
theorem isF_more {T : TabZ} {l : List Sym} {f : Nat} {st : StZ} {i : Nat} {C : List Int} (h : isF T l f st i C = true) : ∀ d, isF T l (f + d) st i C = true
  | 0 => h
  | d + 1 => isF_mono _ _ _ _ (isF_more h d)
theorem begB_self (c R : List Int) : begB (c ++ R) c = true := by
  unfold begB
  simp
def PreW (T : TabZ) (l : List Sym) (c : List Int) (st : StZ) (i : Nat) : Prop := ∀ R f, isF T l f st i R = true -> ∃ f', isF T l f' ⟨0, false, false⟩ 0 (c ++ R) = true
theorem PreW.start (T : TabZ) (l : List Sym) : PreW T l [] ⟨0, false, false⟩ 0 := fun _ f h => ⟨f, h⟩
theorem PreW.step {T : TabZ} {l : List Sym} {c : List Int} {st : StZ} {i : Nat} (h : PreW T l c st i) (hi : i < l.length) {s : StpZ} (hs : s ∈ nextZ T st l i) : PreW T l (c ++ s.cells) s.st (i + s.n) := fun _ f hf => by
  rw [List.append_assoc]
  refine h _ (f + 1) ?_
  unfold isF
  rw [if_neg (by omega)]
  refine List.any_eq_true.2 ⟨s, hs, ?_⟩
  rw [begB_self, Bool.true_and, List.drop_left]
  exact hf
theorem PreW.done {T : TabZ} {l : List Sym} {c : List Int} {st : StZ} {i : Nat} (h : PreW T l c st i) (hv : zq8 T = 0) (hlang : ∀ x ∈ l, x.lang = 0 \/ x.lang = 1) (hi : l.length <= i) : isZ T l c = true := by
  obtain ⟨f', hf⟩ := h [] 1 (by unfold isF; rw [if_pos hi]; rfl)
  rw [List.append_nil] at hf
  have h2 := isF_more hf (2 * l.length + 2)
  unfold isZ
  have hm := zqd7 l ⟨0, false, false⟩ 0
  rw [zqa7 hv hlang (2 * l.length + 2) (f' + (2 * l.length + 2)) _ _ _ (by omega) (by omega)]
  exact h2
theorem box6w {w : World} {b : Nat} {x0 x1 x2 x3 x4 x5 : Value} {t : TypeId} (h : w.heap[b]? = some (.cells #[x0, x1, x2, x3, x4, x5] t)) : w.cell? ⟨b, 0, none⟩ = some x0 /\ w.cell? ⟨b, 1, none⟩ = some x1 /\ w.cell? ⟨b, 2, none⟩ = some x2 /\ w.cell? ⟨b, 3, none⟩ = some x3 /\ w.cell? ⟨b, 4, none⟩ = some x4 /\ w.cell? ⟨b, 5, none⟩ = some x5 := by
  refine ⟨?_, ?_, ?_, ?_, ?_, ?_⟩ <;> simp [World.cell?, h]
def WrP (T : TabZ) (l : List Sym) (n : Nat) (w : World) (e : Ending) (w' : World) : Prop := ∃ v c ok, e = .returned (.tuple #[v, .bool ok]) /\ BysAt w' v c /\ c.length <= 99999 /\ (ok = true -> isZ T l c = true) /\ ((∀ st i, i < n -> nextZ T st l i ≠ []) -> ok = true) /\ Below w.heap.size w w'
theorem set3s {W : World} {b : Nat} {u0 u1 u2 : Value} {t : TypeId} (h : W.heap[b]? = some (.cells #[u0, u1, u2] t)) (v0 v1 v2 : Value) : (((W.setCell ⟨b, 0, none⟩ v0).setCell ⟨b, 1, none⟩ v1).setCell ⟨b, 2, none⟩ v2).heap[b]? = some (.cells #[v0, v1, v2] t) := by
  have h0 := zq12 h 0 v0
  rw [show (#[u0, u1, u2] : Array Value).setIfInBounds 0 v0 = #[v0, u1, u2] from rfl] at h0
  have h1 := zq12 h0 1 v1
  rw [show (#[v0, u1, u2] : Array Value).setIfInBounds 1 v1 = #[v0, v1, u2] from rfl] at h1
  have h2 := zq12 h1 2 v2
  rw [show (#[v0, v1, u2] : Array Value).setIfInBounds 2 v2 = #[v0, v1, v2] from rfl] at h2
  exact h2
theorem set3s_turned (W : World) (b : Nat) (v0 v1 v2 : Value) : Turned (fun x => x = b) W (((W.setCell ⟨b, 0, none⟩ v0).setCell ⟨b, 1, none⟩ v1).setCell ⟨b, 2, none⟩ v2) :=
  (((Turned.refl (fun x => x = b) W).setCell ⟨b, 0, none⟩ v0 (.inr rfl)).setCell ⟨b, 1, none⟩ v1 (.inr rfl)).setCell ⟨b, 2, none⟩ v2 (.inr rfl)
structure WtS (w0 : World) (V : TabV) (T : TabZ) (l : List Sym) (Bt Sb i j : Nat) (st : StZ) (c : List Int) (v : Value) (W : World) : Prop where
  low : Below w0.heap.size w0 W
  slo : w0.heap.size <= Sb
  tab : W.heap[Bt]? = some (.cells #[V.a, V.b, V.d, V.c, V.n, V.e, V.s] 29)
  sbx : W.heap[Sb]? = some (.cells #[.int .i64 st.lang, .bool st.num, .bool st.word] 66)
  row : W.ownsRow w0.heap.size 5 1 v c.length (byC c)
  rng : ∀ x ∈ c, 0 <= x /\ x < 256
  len : c.length <= 12 * j
  pre : PreW T l c st i
  lang : st.lang = 0 \/ st.lang = 1
  mu : j + isM l st i <= 2 * l.length + 1
  le : i <= l.length
theorem WtS.below {w0 : World} {V : TabV} {T : TabZ} {l : List Sym} {Bt Sb i j : Nat} {st : StZ} {c : List Int} {v : Value} {W W' : World} (h : WtS w0 V T l Bt Sb i j st c v W) (hb : Below W.heap.size W W') : WtS w0 V T l Bt Sb i j st c v W' :=
  ⟨h.low.trans (hb.mono h.low.size), h.slo, zq0 hb h.tab, zq0 hb h.sbx, zq2 h.row hb, h.rng, h.len, h.pre, h.lang, h.mu, h.le⟩
def VWt (w0 : World) (V : TabV) (T : TabZ) (l : List Sym) (Bt Sb : Nat) (iv jv v : Value) (wr : World) : Prop :=
  ∃ (i j : Nat) (st : StZ) (c : List Int), iv = .int .i64 (i : Nat) /\ jv = .int .i64 (j : Nat) /\ WtS w0 V T l Bt Sb i j st c v wr
set_option maxHeartbeats 4000000 in
theorem writtenC_any (V : TabV) (T : TabZ) (lv chv : Value) (l : List Sym) (ch : List Int) (w : World) (hT : TabIn w V T) (hok : TabOk T) (hv : zq8 T = 0) (h : SymsAt w lv l) (hr : SymOk l) (hl : l.length <= 1000) (hlang : ∀ x ∈ l, x.lang = 0 \/ x.lang = 1) (hch : IntsAt w chv ch) :
    Calls Tryz.prog 8 #[V.v, lv, chv] w fun e w' => WrP T l l.length w e w' := by
  obtain ⟨la, lc, rfl, hlc, hlm⟩ := h.form
  obtain ⟨ha, hc, rfl, hhc, hhm⟩ := hch.1.form
  unfold maxLen at hlm hhm
  have HT := hidep (And.intro hT (And.intro hok (And.intro hv (And.intro h (And.intro hr (And.intro hlang hch))))))
  obtain ⟨n, hn⟩ : ∃ n, n = l.length := ⟨_, rfl⟩
  have HN := hidep hn
  obtain ⟨hn2, hhn⟩ : ∃ n, n = ch.length := ⟨_, rfl⟩
  have HHN := hidep hhn
  rw [<- hn] at hlc hl ⊢
  rw [<- hhn] at hhc ⊢
  unfold TabV.v
  clear hT hok hv h hr hlang hch hn hhn
  go_enter Tryz.func8, Tryz.ntmps8
  go_upto_region 1 with (fail)
  obtain ⟨Bt, hBt⟩ : ∃ B, B = w.heap.size := ⟨_, rfl⟩
  refine zq9 (fun X => Below w.heap.size w X /\ X.heap[Bt]? = some (.cells #[V.a, V.b, V.d, V.c, V.n, V.e, V.s] 29)) ⟨(Below.refl _ _).alloc (Nat.le_refl _) _, by rw [hBt]; exact heap_alloc_new _ _⟩ ?_
  rintro X0 ⟨hb0, ht0⟩
  rw [<- hBt]
  have HX0 := hidep (And.intro hb0 ht0)
  clear hBt hb0 ht0
  go_upto_region 3 with (fail)
  obtain ⟨Sb, hSb⟩ : ∃ B, B = X0.heap.size := ⟨_, rfl⟩
  refine zq9 (fun X => WtS w V T l Bt Sb 0 0 ⟨0, false, false⟩ [] (.slice none 0 0) X) ⟨HX0.out.1.alloc HX0.out.1.size _, by rw [hSb]; exact HX0.out.1.size, zq0 ((Below.refl _ _).alloc (Nat.le_refl _) _) HX0.out.2, by rw [hSb]; exact heap_alloc_new _ _, World.ownsRow_nil _ _ _ _, fun x hx => (by cases hx), Nat.zero_le _, PreW.start T l, .inl rfl, by have := zqd7 l ⟨0, false, false⟩ 0; omega, Nat.zero_le _⟩ ?_
  intro X1 hW1
  rw [<- hSb]
  have HW1 := hidep hW1
  clear hSb hW1
  go_upto_region 5 with (fail)
  refine wp_loop (LoopI 47 (fun tm ds wr => (slot tm 1) = .slice la n lc /\ (slot tm 2) = .slice ha hn2 hc /\ (slot tm 3) = .pointer (some ⟨Bt, 0, none⟩) /\ (slot tm 9) = .pointer (some ⟨Sb, 0, none⟩) /\ ds = [] /\ VWt w V T l Bt Sb (slot tm 10) (slot tm 11) (slot tm 8) wr)) (fun a' wr => 2 * n + 2 - natI (a'.tmps.getD 11 undef)) ?olStart ?olRound
  case' olStart => refine LoopI.mk rfl ?_
  case' olRound => (rintro ⟨t, ds⟩ wr ⟨hts, hrel⟩; dsimp only at hts hrel; rw [zqc5 t ds hts])
  case olStart => exact ⟨rfl, rfl, rfl, rfl, rfl, 0, 0, _, _, rfl, rfl, HW1.out⟩
  obtain ⟨e1, e2, e3, e9, hds, i, j, st, c, e10, e11, hW⟩ := hrel
  obtain ⟨v, hvv⟩ : ∃ v, v = slot t 8 := ⟨_, rfl⟩
  rw [<- hvv] at hW
  subst hds
  rw [e1, e2, e3, e9, e10, e11, <- hvv]
  clear e1 e2 e3 e9 e10 e11 hts hvv HW1
  have HW := hidep hW
  have hi := hW.le
  have hjb := hW.mu
  rw [<- HN.out] at hi hjb
  obtain ⟨va, vc, rfl, _, hvm⟩ := (Rd.of_own hW.row).form
  unfold maxLen at hvm
  by_cases hin : i < n
  · have hii : (i : Int) < (n : Int) := by omega
    have hwj : IntKind.i64.wrap ((j : Int) + 1) = (j : Int) + 1 := IntWalk.i64_in _ (by omega)
    have hil : i < l.length := by rw [<- HN.out]; exact hin
    obtain ⟨q0, q1, q2, q3, q4, q5, q6⟩ : wr.cell? ⟨Bt, 0, none⟩ = some V.a /\ wr.cell? ⟨Bt, 1, none⟩ = some V.b /\ wr.cell? ⟨Bt, 2, none⟩ = some V.d /\ wr.cell? ⟨Bt, 3, none⟩ = some V.c /\ wr.cell? ⟨Bt, 4, none⟩ = some V.n /\ wr.cell? ⟨Bt, 5, none⟩ = some V.e /\ wr.cell? ⟨Bt, 6, none⟩ = some V.s := by
      have h := hW.tab
      refine ⟨?_, ?_, ?_, ?_, ?_, ?_, ?_⟩ <;> simp [World.cell?, h]
    obtain ⟨s0, s1, s2⟩ : wr.cell? ⟨Sb, 0, none⟩ = some (.int .i64 st.lang) /\ wr.cell? ⟨Sb, 1, none⟩ = some (.bool st.num) /\ wr.cell? ⟨Sb, 2, none⟩ = some (.bool st.word) := by
      have h := hW.sbx
      refine ⟨?_, ?_, ?_⟩ <;> simp [World.cell?, h]
    have HNX := hidep (nextR_any V T st (.slice la l.length lc) l i wr (HT.out.1.below hW.low) HT.out.2.1 HT.out.2.2.1 (HT.out.2.2.2.1.below hW.low) HT.out.2.2.2.2.1 (by rw [<- HN.out]; omega) hil HT.out.2.2.2.2.2.1)
    rw [<- HN.out] at HNX
    unfold TabV.v at HNX
    obtain ⟨N, hN⟩ : ∃ x, x = nextZ T st l i := ⟨_, rfl⟩
    rw [<- hN] at HNX
    have HNN := hidep hN
    clear hW hN
    go_upto_region 8 with (go_at_call 26; refine HNX.out.mono ?_; rintro e w7 ⟨⟨v7, rfl, hs7⟩, hb7⟩; have hin7 := hs7.into; obtain ⟨a7, c7, rfl, h7c, h7m⟩ := hin7.form)
    unfold maxLen at h7m
    have HS7 := hidep (And.intro hin7 hb7)
    have HW7 := hidep (HW.out.below hb7)
    clear hs7 hin7 hb7 q0 q1 q2 q3 q4 q5 q6 s0 s1 s2 HNX
    by_cases hN0 : N.length = 0
    · have hle : ((N.length : Int) == 0) = true := by rw [hN0]; rfl
      have HNE := hidep (show (∀ st i, i < n -> nextZ T st l i ≠ []) -> False from fun h => h st i hin (by rw [<- HNN.out]; exact List.eq_nil_of_length_eq_zero hN0))
      clear hN0
      go_wp2
      go_ret2
      exact ⟨_, [], false, rfl, ⟨Rd.nil _ _ _, fun x hx => (by cases hx)⟩, Nat.zero_le _, fun e => (by cases e), fun h => (HNE.out h).elim, HW7.out.low⟩
    · have hle : ((N.length : Int) == 0) = false := by rw [beq_eq_false_iff_ne]; omega
      have harr := atZ_rng ch (j : Int) (N.length : Int) (by omega)
      obtain ⟨p, hp⟩ : ∃ p : Nat, (p : Int) = atZ ch (j : Int) (N.length : Int) := ⟨(atZ ch (j : Int) (N.length : Int)).toNat, by omega⟩
      have HAT := hidep (fun (W : World) (hb : Below w.heap.size w W) => at_any (.slice ha ch.length hc) ch (j : Int) (N.length : Int) W (HT.out.2.2.2.2.2.2.below hb))
      rw [<- hp, <- HHN.out] at HAT
      rw [<- hp] at harr
      have hpl : p < N.length := by omega
      obtain ⟨b, off, s, ua, uc, hsN, rfl, hbb, k0, k1, k2, k3, k4, k5, hus⟩ := HS7.out.1.get hpl
      have hsm : s ∈ nextZ T st l i := by rw [<- HNN.out, <- hsN]; exact List.getElem_mem hpl
      have hnm := zq8e HT.out.2.2.1 hil HT.out.2.2.2.2.2.1 hsm
      have hbs : ∀ x ∈ s.cells, 0 <= x /\ x < 256 := hus.2
      have HSM := hidep (And.intro hsm (And.intro hnm hbs))
      have HUS := hidep hus
      have hpi : (p : Int) < (N.length : Int) := by omega
      have hp0 : (0 : Int) <= (p : Int) := by omega
      clear hp hsN hsm hnm hbs hus harr hN0
      obtain ⟨Nl, hNl⟩ : ∃ x, x = N.length := ⟨_, rfl⟩
      rw [<- hNl] at hle HAT hpi h7c ⊢
      clear hNl hpl
      go_upto_region 11 with (go_at_call 27; refine (HAT.out _ HW7.out.low).mono ?_; rintro e w8 ⟨rfl, rfl⟩)
      obtain ⟨Qb, hQb⟩ : ∃ B, B = w7.heap.size := ⟨_, rfl⟩
      refine zq9 (fun X => Below w7.heap.size w7 X /\ X.heap[Qb]? = some (.cells #[.int .i64 s.st.lang, .bool s.st.num, .bool s.st.word, .int .i64 (s.n : Nat), .slice ua s.cells.length uc, .int .i64 s.rule] 70)) ⟨(Below.refl _ _).alloc (Nat.le_refl _) _, by rw [hQb]; exact heap_alloc_new _ _⟩ ?_
      rintro X8 ⟨hb8, hq8⟩
      rw [<- hQb]
      have HW8 := hidep (HW7.out.below hb8)
      have HQ8 := hidep (And.intro hq8 (HUS.out.below hb8))
      obtain ⟨m0, m1, m2, m3, m4, m5⟩ := box6w hq8
      have hl12 := HSM.out.2.1.2.2.2.2
      have hn8 := HSM.out.2.1.2.2.2.1
      have hin8 := HSM.out.2.1.2.2.1
      have hcl := HW8.out.len
      have hjn : c.length <= 99999 := by omega
      have hw10 : w.heap.size <= X8.heap.size := HW8.out.low.size
      have hone : ∀ u ∈ byC s.cells, u.oneCell' = true := zq33 s.cells
      have hrd : Rd X8 (fun _ => True) 1 (.slice ua s.cells.length uc) s.cells.length (byC s.cells) := HQ8.out.2.1
      have hrow := HW8.out.row
      have HRR := hidep (And.intro hrd hrow)
      clear hQb hb8 hq8 hrd hrow k0 k1 k2 k3 k4 k5
      go_upto_region 12 with (at_builtin; go_loud (refine zq4 _ rfl _ _ rfl slByt w.heap.size (.slice va c.length vc) c.length (byC c) rfl HRR.out.2 (fun _ => True) (.slice ua s.cells.length uc) s.cells.length (byC s.cells) rfl HRR.out.1 hone (by unfold maxLen; omega) (by omega) hw10 ?_; intro v9 w9 ho9 hg9 hown9 hnl9; clear hnl9 hown9; have hkp := Keeps.grown (T := fun t => t ≠ 5) HRR.out.2 hg9 (fun _ h => h); have hq9 := hkp.2 _ _ _ _ (by decide) HQ8.out.1; have hs9 := hkp.2 _ _ _ _ (by decide) HW8.out.sbx; obtain ⟨m0, m1, m2, m3, m4, m5⟩ := box6w hq9; have hcs : w9.cell? ⟨Sb, 0, none⟩ = some (.int .i64 st.lang) /\ w9.cell? ⟨Sb, 1, none⟩ = some (.bool st.num) /\ w9.cell? ⟨Sb, 2, none⟩ = some (.bool st.word) := (by refine ⟨?_, ?_, ?_⟩ <;> simp [World.cell?, hs9]); obtain ⟨s0, s1, s2⟩ := hcs; have f0 := zq1 hs9 0; have f1 := zq1 hs9 1; have f2 := zq1 hs9 2; obtain ⟨a9, c9, hv9, _, _⟩ := (Rd.of_own ho9).form; subst hv9))
      have hwn : IntKind.i64.wrap ((i : Int) + (s.n : Int)) = ((i + s.n : Nat) : Int) := by rw [IntWalk.i64_in _ (by omega)]; omega
      have hset := set3s hs9 (.int .i64 s.st.lang) (.bool s.st.num) (.bool s.st.word)
      have htu := set3s_turned w9 Sb (.int .i64 s.st.lang) (.bool s.st.num) (.bool s.st.word)
      have hb9 : Below w.heap.size w w9 := HW8.out.low.grown hg9 hw10 (fun x hx => (HRR.out.2.lt x hx).1)
      have hlw := zq19 hb9 (Nat.le_refl _) htu (fun x hx => by rw [hx]; exact HW8.out.slo)
      have ht9 := hkp.2 _ _ _ _ (by decide) HW8.out.tab
      have htS : Bt ≠ Sb := fun e => by
        rw [e, hs9] at ht9
        injection ht9 with h2
        injection h2 with _ h3 _
        exact absurd h3 (by decide)
      have htb := htu.cells ht9 htS
      have ho10 := zq32 ho9 htu (fun g hg e => by
        obtain ⟨cur2, h2⟩ := zq1d ho9 hg
        rw [show g = Sb from e, hs9] at h2
        injection h2 with h2
        injection h2 with _ h3 _
        exact absurd h3 (by decide))
      have hnew : WtS w V T l Bt Sb (i + s.n) (j + 1) s.st (c ++ s.cells) (.slice a9 (c.length + s.cells.length) c9) (((w9.setCell ⟨Sb, 0, none⟩ (.int .i64 s.st.lang)).setCell ⟨Sb, 1, none⟩ (.bool s.st.num)).setCell ⟨Sb, 2, none⟩ (.bool s.st.word)) :=
        ⟨hlw, HW8.out.slo, htb, hset, by rw [List.length_append]; simpa [byC] using ho10, fun x hx => (List.mem_append.1 hx).elim (HW8.out.rng x) (HSM.out.2.2 x), by rw [List.length_append]; omega, HW8.out.pre.step hil HSM.out.1, HSM.out.2.1.2.1, by have := HSM.out.2.1.1; have := HW8.out.mu; omega, hin8⟩
      have HNW := hidep hnew
      clear hnew hset htu hb9 hlw ht9 htS htb ho10 ho9 hg9 hkp hq9 hs9 hin8
      go_wp2
      refine ⟨LoopI.mk rfl ⟨rfl, rfl, rfl, rfl, rfl, i + s.n, j + 1, _, _, rfl, by show Value.int _ _ = _; go_num, HNW.out⟩, ?_⟩
      show 2 * n + 2 - _ < 2 * n + 2 - _
      simp [natI]; omega
  · have hii : ¬ (i : Int) < (n : Int) := by omega
    have HD := hidep (hW.pre.done HT.out.2.2.1 HT.out.2.2.2.2.2.1 (by rw [<- HN.out]; omega))
    have hcl := hW.len
    have hjn : c.length <= 99999 := by omega
    have HCL := hidep hjn
    clear hW hcl hjn
    go_wp2
    go_ret2
    exact ⟨_, c, true, rfl, BysAt.of_own HW.out.row HW.out.rng, HCL.out, fun _ => HD.out, fun _ => rfl, HW.out.low⟩
end Go.Proofs.YtcfjepcflanjbaaGreat
