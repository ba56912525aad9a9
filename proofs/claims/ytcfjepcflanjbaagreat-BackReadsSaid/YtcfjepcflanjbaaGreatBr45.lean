/- Contract: the makers' Few. -/
import Derived.Test.YtcfjepcflanjbaaGreatBr10
import Derived.Test.YtcfjepcflanjbaaGreatBr07
import Derived.Test.YtcfjepcflanjbaaGreatBr21
import Derived.Test.YtcfjepcflanjbaaGreatBr43
namespace Go.Proofs.YtcfjepcflanjbaaGreat
open Go.RowKit Go.Lab Go.Shelf
set_option maxRecDepth 100000
set_option maxHeartbeats 1000000 in
theorem few_any (v : Value) (l : List Int) (k : Nat) (w : World) (h : BysAt w v l) (hl : l.length <= 9223372036854775807) (hk : k <= 1000) :
    Calls Tryz.prog 12 #[v, .int .i64 (k : Nat)] w fun e w' => ∃ u, e = .returned u /\ BysAt w' u (l.take k) /\ Below w.heap.size w w' := by
  obtain ⟨a, c, rfl, hlc, hlm⟩ := h.1.form
  unfold maxLen at hlm
  have H := hidep h
  obtain ⟨n, hn⟩ : ∃ n, n = l.length := ⟨_, rfl⟩
  have HN := hidep hn
  obtain ⟨m, hm⟩ : ∃ m, m = min n k := ⟨_, rfl⟩
  have hmi : min (n : Int) (k : Int) = (m : Int) := by omega
  have hmc : (m : Int) <= (c : Int) := by rw [<- hn] at hlc; omega
  have hm0 : (0 : Int) <= (m : Int) := by omega
  have hmn : m <= n := by omega
  have HMK := hidep hm
  rw [<- hn] at hlc hl ⊢
  have hp := h.1.pre (j := m) (by omega)
  rw [Nat.mul_one] at hp
  have HP := hidep hp
  clear h hn hm hp
  go_enter Tryz.func12, Tryz.ntmps12
  go_upto_region 2 with (fail)
  have hone : ∀ u ∈ List.take m (byC l), u.oneCell' = true := fun u hu => zq33 l u (List.mem_of_mem_take hu)
  go_wp2_with (at_builtin; go_loud (refine zq4 _ rfl _ _ rfl slByt w.heap.size (.slice none 0 0) 0 [] rfl (World.ownsRow_nil _ _ _ _) (fun _ => True) (.slice a m c) m (List.take m (byC l)) (by first | rfl | (go_simp; split <;> omega)) HP.out hone (by unfold maxLen; omega) (by omega) (Nat.le_refl _) ?_; intro v1 w1 hown hgr hat hnl; clear hat hnl))
  all_goals
    go_ret
    refine ⟨_, rfl, ?_, (Below.refl _ _).grown hgr (Nat.le_refl _) (fun k hk => by simp [Value.ownBlock] at hk)⟩
    have hlt : (l.take k).length = m := by rw [List.length_take, HMK.out, HN.out, Nat.min_comm]
    have hlk : List.take m (byC l) = byC (l.take k) := by
      rw [HMK.out, HN.out]
      unfold byC
      rw [List.map_take, List.take_eq_take_iff.2]
      simp
      omega
    refine BysAt.of_own (base := w.heap.size) (e := 5) ?_ (fun x hx => H.out.2 x (List.mem_of_mem_take hx))
    rw [hlt, <- hlk]
    simpa using hown
end Go.Proofs.YtcfjepcflanjbaaGreat
/- Moves of the reference in rows of one's own. -/
namespace Go.Proofs.YtcfjepcflanjbaaGreat
open Go.RowKit Go.Lab Go.Shelf
set_option maxRecDepth 100000
def isMv (w : World) (b : Nat) : Prop := ∃ cur ty fz, w.heap[b]? = some (.cells cur ty fz) /\ (ty = 144 \/ ty = 4)
def ApM (bd : Nat) (w : World) (P : World -> Prop) : Prop := ∀ w' : World, w.heap.size <= w'.heap.size -> (∀ b, b < w.heap.size -> (b < bd \/ ¬ isMv w b) -> w'.heap[b]? = w.heap[b]?) -> P w'
theorem ApM.here {bd : Nat} {w : World} {P : World -> Prop} (h : ApM bd w P) : P w := h w (Nat.le_refl _) (fun _ _ _ => rfl)
theorem zqdc {w w' : World} {b : Nat} (h : w'.heap[b]? = w.heap[b]?) : isMv w' b ↔ isMv w b := by
  unfold isMv
  rw [h]
theorem ApM.below {bd : Nat} {w w' : World} {P : World -> Prop} (h : ApM bd w P) (hb : Below w.heap.size w w') : ApM bd w' P := fun x hx ha =>
  h x (Nat.le_trans hb.size hx) (fun b hbl hne => (ha b (Nat.lt_of_lt_of_le hbl hb.size) (hne.imp_right (fun n m => n ((zqdc (hb.block b hbl)).1 m)))).trans (hb.block b hbl))
theorem ApM.high {bd bd' : Nat} {w : World} {P : World -> Prop} (h : ApM bd w P) (hb : bd <= bd') : ApM bd' w P := fun x hx ha => h x hx (fun b hbl hne => ha b hbl (hne.imp_left (fun g => Nat.lt_of_lt_of_le g hb)))
theorem ApM.grown {bd base k n : Nat} {w w' : World} {v : Value} {xs : List Value} {P : World -> Prop} (h : ApM bd w P) (ho : w.ownsRow base 144 k v n xs) (hbd : bd <= base) (hg : w.grownBy w' v.ownBlock) : ApM bd w' P := fun x hx ha =>
  h x (Nat.le_trans hg.size hx) (fun b hbl hne => by
    have hnb : some b ≠ v.ownBlock := fun e => by
      rcases hne with h1 | h1
      · have := (ho.lt b e.symm).1
        omega
      · obtain ⟨cur, hc⟩ := zq1d ho e.symm
        exact h1 ⟨cur, _, _, hc, .inl rfl⟩
    have hs := hg.block b hbl hnb
    exact (ha b (Nat.lt_of_lt_of_le hbl hg.size) (hne.imp_right (fun n m => n ((zqdc hs).1 m)))).trans hs)
theorem ApM.and {bd : Nat} {w : World} {P Q : World -> Prop} (h : ApM bd w P) (k : ApM bd w Q) : ApM bd w (fun x => P x /\ Q x) := fun x hx ha => ⟨h x hx ha, k x hx ha⟩
theorem ApM.mono {bd : Nat} {w : World} {P Q : World -> Prop} (h : ApM bd w P) (hPQ : ∀ x, P x -> Q x) : ApM bd w Q := fun x hx ha => hPQ x (h x hx ha)
theorem ApM.own {bd : Nat} {w : World} {base k n : Nat} {e : TypeId} {v : Value} {xs : List Value} (h : w.ownsRow base e k v n xs) (he : ¬ (e = 144 \/ e = 4)) : ApM bd w (fun x => x.ownsRow base e k v n xs) := fun x _ ha => by
  refine ⟨h.1, ?_⟩
  rcases h.2 with h2 | ⟨g, cap, cur, rfl, hb, hq, r⟩
  · exact .inl h2
  · refine .inr ⟨g, cap, cur, rfl, hb, (ha g (lt_of_block hq) (.inr ?_)).trans hq, r⟩
    rintro ⟨cur', ty', fz', h', ht'⟩
    rw [hq] at h'
    injection h' with h'
    injection h' with _ h3 _
    exact he (h3 ▸ ht')
theorem ApM.bys {bd : Nat} {w0 w : World} {v : Value} {c : List Int} (h : BysAt w0 v c) (hb : Below w0.heap.size w0 w) (hB : w0.heap.size <= bd) : ApM bd w (fun x => BysAt x v c) := fun x _ ha =>
  bys_agree h (fun b hbl => (ha b (Nat.lt_of_lt_of_le hbl hb.size) (.inl (by omega))).trans (hb.block b hbl))
theorem ApM.setB {bd : Nat} {w : World} {ad : Addr} {cur : Array Value} {fz : Nat × Nat} {P : World -> Prop} (h : ApM bd w P) (hb : w.heap[ad.block]? = some (.cells cur 4 fz)) (hbd : bd <= ad.block) (v : Value) : ApM bd (w.setCell ad v) P := fun x hx ha =>
  h x (Nat.le_trans (by simp [World.setCell]) hx) (fun b hbl hne => by
    have hnb : b ≠ ad.block := fun e => by
      rcases hne with h1 | h1
      · omega
      · exact h1 ⟨cur, _, fz, e ▸ hb, .inr rfl⟩
    have hs := Below.heap_setCell w ad v b hnb
    exact (ha b (by simpa [World.setCell] using hbl) (hne.imp_right (fun n m => n ((zqdc hs).1 m)))).trans hs)
theorem ApM.nil {bd : Nat} {w : World} : ApM bd w (fun x => SymsAt x (.slice none 0 0) []) := fun x _ _ => SymsAt.nil x
theorem zqd0 {W : World} {base base' k n : Nat} {e : TypeId} {v : Value} {xs : List Value} (h : W.ownsRow base e k v n xs) (hb : base' <= base) : W.ownsRow base' e k v n xs := by
  refine ⟨h.1, ?_⟩
  rcases h.2 with h2 | ⟨g, cap, cur, hv, hg, r⟩
  · exact .inl h2
  · exact .inr ⟨g, cap, cur, hv, Nat.le_trans hb hg, r⟩
def mvC (m : MvZ) (u : Value × Value) : List Value := [u.1, u.2, .int .i64 m.dst.st.lang, .bool m.dst.st.num, .bool m.dst.st.word, .int .i64 (m.dst.need : Nat), .bool m.dst.sw]
def mvsC : List MvZ -> List (Value × Value) -> List Value
  | m :: ms, u :: us => mvC m u ++ mvsC ms us
  | _, _ => []
theorem mvsC_app : ∀ (l : List MvZ) (us : List (Value × Value)) (l' : List MvZ) (us' : List (Value × Value)), us.length = l.length -> mvsC (l ++ l') (us ++ us') = mvsC l us ++ mvsC l' us'
  | [], [], _, _, _ => by simp [mvsC]
  | [], _ :: _, _, _, h => by simp at h
  | _ :: _, [], _, _, h => by simp at h
  | a :: l, b :: us, l', us', h => by
    have := mvsC_app l us l' us' (by simpa using h)
    simp [mvsC, this]
def MvR (base bd : Nat) (lang : Int) (W : World) (v : Value) (ms : List MvZ) : Prop := ∃ us : List (Value × Value), us.length = ms.length /\ W.ownsRow base 144 7 v ms.length (mvsC ms us) /\ ∀ i (h : i < ms.length) (h' : i < us.length), ApM bd W (fun X => BysAt X us[i].1 ms[i].cells /\ SymsAt X us[i].2 (zq1b lang ms[i].text ms[i].cap))
theorem MvR.nil (base bd : Nat) (lang : Int) (W : World) : MvR base bd lang W (.slice none 0 0) [] := ⟨[], rfl, World.ownsRow_nil _ _ _ _, fun i h => by simp at h⟩
theorem MvR.below {base bd : Nat} {lang : Int} {W W' : World} {v : Value} {ms : List MvZ} (h : MvR base bd lang W v ms) (hb : Below W.heap.size W W') : MvR base bd lang W' v ms := by
  obtain ⟨us, h1, h2, h3⟩ := h
  exact ⟨us, h1, zq2 h2 hb, fun i a b => (h3 i a b).below hb⟩
theorem MvR.setB {base bd : Nat} {lang : Int} {W : World} {v : Value} {ms : List MvZ} {ad : Addr} {cur : Array Value} {fz : Nat × Nat} (h : MvR base bd lang W v ms) (hb : W.heap[ad.block]? = some (.cells cur 4 fz)) (hbd : bd <= ad.block) (x : Value) : MvR base bd lang (W.setCell ad x) v ms := by
  obtain ⟨us, h1, h2, h3⟩ := h
  refine ⟨us, h1, ?_, fun i a b => (h3 i a b).setB hb hbd x⟩
  refine ⟨h2.1, ?_⟩
  rcases h2.2 with h4 | ⟨g, cap, cur', rfl, hg, hq, r⟩
  · exact .inl h4
  · refine .inr ⟨g, cap, cur', rfl, hg, (Below.heap_setCell W ad x g (fun e => ?_)).trans hq, r⟩
    rw [e, hb] at hq
    injection hq with hq
    injection hq with _ h5 _
    exact absurd h5 (by decide)
theorem MvR.push {base bd : Nat} {lang : Int} {W W' : World} {v v' : Value} {ms ns : List MvZ} {us un : List (Value × Value)} (hl : us.length = ms.length) (hc : ∀ i (h : i < ms.length) (h' : i < us.length), ApM bd W (fun X => BysAt X us[i].1 ms[i].cells /\ SymsAt X us[i].2 (zq1b lang ms[i].text ms[i].cap)))
    (hln : un.length = ns.length) (hcn : ∀ i (h : i < ns.length) (h' : i < un.length), ApM bd W (fun X => BysAt X un[i].1 ns[i].cells /\ SymsAt X un[i].2 (zq1b lang ns[i].text ns[i].cap))) (hg : W.grownBy W' v.ownBlock) (ho0 : W.ownsRow base 144 7 v ms.length (mvsC ms us)) (hbd : bd <= base)
    (ho : W'.ownsRow base 144 7 v' (ms.length + ns.length) (mvsC ms us ++ mvsC ns un)) : MvR base bd lang W' v' (ms ++ ns) := by
  refine ⟨us ++ un, by rw [List.length_append, List.length_append, hl, hln], ?_, fun i a b => ?_⟩
  · rw [mvsC_app ms us ns un hl, List.length_append]
    exact ho
  · by_cases h : i < ms.length
    · simp only [List.getElem_append_left h, List.getElem_append_left (show i < us.length by omega)]
      exact (hc i h (by omega)).grown ho0 hbd hg
    · have h2 : ms.length <= i := by omega
      have h3 : us.length <= i := by omega
      rw [List.length_append] at a b
      simp only [List.getElem_append_right h2, List.getElem_append_right h3, hl]
      exact (hcn (i - ms.length) (by omega) (by omega)).grown ho0 hbd hg
end Go.Proofs.YtcfjepcflanjbaaGreat
