/- Rules in rows of one's own, each with its cells; tables being made. -/
import Derived.Test.YtcfjepcflanjbaaGreatBr10
import Derived.Test.YtcfjepcflanjbaaGreatBr03
namespace Go.Proofs.YtcfjepcflanjbaaGreat
open Go.RowKit Go.Lab Go.Shelf
set_option maxRecDepth 100000
def ByT (w : World) (v : Value) (l : List Int) : Prop := Rd w (· = 5) 1 v l.length (byC l) /\ ∀ x ∈ l, 1 <= x /\ x <= 63
section
variable {w w' : World} {T : TypeId -> Prop} {v : Value} {l : List Int}
theorem ByT.keeps (h : ByT w v l) (hk : Keeps T w w') (hT : T 5) : ByT w' v l := ⟨h.1.keeps (hk.mono (fun t e => by subst e; exact hT)), h.2⟩
theorem ByT.below (h : ByT w v l) (hb : Below w.heap.size w w') : ByT w' v l := ⟨h.1.below hb, h.2⟩
theorem ByT.at (h : ByT w v l) : BysAt w v l := ⟨h.1.mono (fun _ _ => trivial), fun x hx => by have := h.2 x hx; omega⟩
theorem ByT.form (h : ByT w v l) : ∃ a cap, v = .slice a l.length cap /\ l.length <= cap /\ cap <= maxLen := h.1.form
end
theorem zq6b {X : World} {g : Nat} (l : List Int) (h : X.heap[g]? = some (.cells (byC l).toArray 5)) (hl : l.length <= 1000) (hr : ∀ x ∈ l, 1 <= x /\ x <= 63) : ByT X (.slice (some ⟨g, 0, none⟩) l.length l.length) l :=
  ⟨zq8a (k := 1) h (by simp) (by unfold maxLen; omega), hr⟩
theorem own_keepsR {T : TypeId -> Prop} {W X : World} {base : Nat} {e : TypeId} {k n : Nat} {v : Value} {xs : List Value} (h : W.ownsRow base e k v n xs) (hk : Keeps T W X) (he : T e) : X.ownsRow base e k v n xs := by
  refine ⟨h.1, ?_⟩
  rcases h.2 with h2 | ⟨g, cap, cur, rfl, hb, hq, r⟩
  · exact .inl h2
  · exact .inr ⟨g, cap, cur, rfl, hb, hk.2 _ _ _ _ he hq, r⟩
def RulesT (base : Nat) (w : World) (v : Value) (L : List RuleZ) : Prop :=
  ∃ us : List Value, us.length = L.length /\ w.ownsRow base 59 3 v L.length (zq10 L us) /\ ∀ i (h : i < L.length) (h' : i < us.length), ByT w us[i] L[i].cells
theorem RulesT.nil (base : Nat) (w : World) : RulesT base w (.slice none 0 0) [] := ⟨[], rfl, World.ownsRow_nil _ _ _ _, fun i h => by simp at h⟩
theorem RulesT.keeps {base : Nat} {w w' : World} {T : TypeId -> Prop} {v : Value} {L : List RuleZ} (h : RulesT base w v L) (hk : Keeps T w w') (h1 : T 59) (h2 : T 5) : RulesT base w' v L := by
  obtain ⟨us, hl, ho, hc⟩ := h
  exact ⟨us, hl, own_keepsR ho hk h1, fun i a b => (hc i a b).keeps hk h2⟩
theorem RulesT.below {base : Nat} {w w' : World} {v : Value} {L : List RuleZ} (h : RulesT base w v L) (hb : Below w.heap.size w w') : RulesT base w' v L := h.keeps (T := fun _ => True) (Keeps.below _ hb) trivial trivial
theorem RulesT.at {base : Nat} {w : World} {v : Value} {L : List RuleZ} (h : RulesT base w v L) : RulesAt w v L := by
  obtain ⟨us, hl, ho, hc⟩ := h
  exact ⟨us, hl, (Rd.of_own ho).mono (fun _ _ => trivial), fun i a b => (hc i a b).at⟩
theorem rulesC_append : ∀ (L rs : List RuleZ) (us us2 : List Value), us.length = L.length -> zq10 (L ++ rs) (us ++ us2) = zq10 L us ++ zq10 rs us2
  | [], rs, [], us2, _ => by simp [zq10]
  | [], _, _ :: _, _, h => by simp at h
  | _ :: _, _, [], _, h => by simp at h
  | a :: L, rs, b :: us, us2, h => by
    have := rulesC_append L rs us us2 (by simpa using h)
    simp [zq10, this]
theorem zq7a {base : Nat} {W6 w7 : World} {v v' : Value} {L rs : List RuleZ} {us us2 : List Value} (hl : us.length = L.length) (hc : ∀ i (h : i < L.length) (h' : i < us.length), ByT W6 us[i] L[i].cells) (hl2 : us2.length = rs.length) (hc2 : ∀ i (h : i < rs.length) (h' : i < us2.length), ByT W6 us2[i] rs[i].cells)
    (hown : W6.ownsRow base 59 3 v L.length (zq10 L us)) (hg : W6.grownBy w7 v.ownBlock) (ho : w7.ownsRow base 59 3 v' (L.length + rs.length) (zq10 L us ++ zq10 rs us2)) : RulesT base w7 v' (L ++ rs) := by
  have hk : Keeps (fun t => t ≠ 59) W6 w7 := Keeps.grown hown hg (fun _ h => h)
  refine ⟨us ++ us2, by simp [hl, hl2], by rw [rulesC_append L rs us us2 hl, List.length_append]; exact ho, fun i h h' => ?_⟩
  by_cases hi : i < L.length
  · rw [List.getElem_append_left hi, List.getElem_append_left (by rw [hl]; exact hi)]
    exact (hc i hi _).keeps hk (by decide)
  · rw [List.getElem_append_right (by omega), List.getElem_append_right (by omega)]
    have hi2 : i - L.length < rs.length := by rw [List.length_append] at h; omega
    have e : i - us.length = i - L.length := by rw [hl]
    simp only [e]
    exact (hc2 _ hi2 (by rw [hl2]; exact hi2)).keeps hk (by decide)
structure TbS (w0 : World) (Tb : Nat) (va vb d c n e s : Value) (La Lb : List RuleZ) (W : World) : Prop where
  low : Below w0.heap.size w0 W
  lo : w0.heap.size <= Tb
  box : W.heap[Tb]? = some (.cells #[va, vb, d, c, n, e, s] 29)
  ra : RulesT w0.heap.size W va La
  rb : RulesT w0.heap.size W vb Lb
  apart : ∀ g, va.ownBlock = some g -> vb.ownBlock ≠ some g
section
variable {w0 W W' : World} {Tb : Nat} {va vb d c n e s : Value} {La Lb : List RuleZ}
theorem TbS.below (h : TbS w0 Tb va vb d c n e s La Lb W) (hb : Below W.heap.size W W') : TbS w0 Tb va vb d c n e s La Lb W' :=
  ⟨h.low.trans (hb.mono h.low.size), h.lo, zq0 hb h.box, h.ra.below hb, h.rb.below hb, h.apart⟩
theorem tb7 {W : World} {Tb : Nat} {va vb d c n e s : Value} (h : W.heap[Tb]? = some (.cells #[va, vb, d, c, n, e, s] 29)) : W.cell? ⟨Tb, 0, none⟩ = some va /\ W.cell? ⟨Tb, 1, none⟩ = some vb /\ W.cell? ⟨Tb, 2, none⟩ = some d /\ W.cell? ⟨Tb, 3, none⟩ = some c /\ W.cell? ⟨Tb, 4, none⟩ = some n /\ W.cell? ⟨Tb, 5, none⟩ = some e /\ W.cell? ⟨Tb, 6, none⟩ = some s := by
  refine ⟨?_, ?_, ?_, ?_, ?_, ?_, ?_⟩ <;> simp [World.cell?, h]
theorem RulesT.own {base : Nat} {w : World} {v : Value} {L : List RuleZ} (h : RulesT base w v L) : ∃ xs, w.ownsRow base 59 3 v L.length xs := by
  obtain ⟨us, _, ho, _⟩ := h
  exact ⟨_, ho⟩
theorem RulesT.other {base : Nat} {w w' : World} {v u : Value} {L M : List RuleZ} (h : RulesT base w v L) (k : RulesT base w u M) (hg : w.grownBy w' u.ownBlock) (hne : ∀ g, v.ownBlock = some g -> u.ownBlock ≠ some g) : RulesT base w' v L := by
  obtain ⟨us, hl, ho, hc⟩ := h
  obtain ⟨ys, hk⟩ := k.own
  have hkk : Keeps (fun t => t ≠ 59) w w' := Keeps.grown hk hg (fun _ h => h)
  refine ⟨us, hl, ?_, fun i a b => (hc i a b).keeps hkk (by decide)⟩
  refine ⟨ho.1, ?_⟩
  rcases ho.2 with h2 | ⟨g, cap, cur, rfl, hb, hq, r⟩
  · exact .inl h2
  · exact .inr ⟨g, cap, cur, rfl, hb, (hg.block g (lt_of_block hq) (fun e => hne g rfl e.symm)).trans hq, r⟩
theorem TbS.store (h : TbS w0 Tb va vb d c n e s La Lb W) (j : Nat) (x : Value) {d' c' n' e' s' : Value} (hc : (#[va, vb, d, c, n, e, s] : Array Value).setIfInBounds j x = #[va, vb, d', c', n', e', s']) : TbS w0 Tb va vb d' c' n' e' s' La Lb (W.setCell ⟨Tb, j, none⟩ x) := by
  have hk : Keeps (fun t => t ≠ 29) W (W.setCell ⟨Tb, j, none⟩ x) := Keeps.setCell (a := ⟨Tb, j, none⟩) h.box (fun t ht => ht) _
  exact ⟨h.low.setCell (p := ⟨Tb, j, none⟩) h.lo _, h.lo, by rw [<- hc]; exact zq12 h.box j x, h.ra.keeps hk (by decide) (by decide), h.rb.keeps hk (by decide) (by decide), h.apart⟩
theorem TbS.pushA (h : TbS w0 Tb va vb d c n e s La Lb W) {w7 : World} {va' : Value} {rs : List RuleZ} (hr : RulesT w0.heap.size w7 va' (La ++ rs)) (hg : W.grownBy w7 va.ownBlock) (hown : va'.ownBlock = va.ownBlock \/ va'.ownBlock = some W.heap.size) : TbS w0 Tb va' vb d c n e s (La ++ rs) Lb (w7.setCell ⟨Tb, 0, none⟩ va') := by
  obtain ⟨xs, hx⟩ := h.ra.own
  have hbx : w7.heap[Tb]? = some (.cells #[va, vb, d, c, n, e, s] 29) := (Keeps.grown (T := fun t => t ≠ 59) hx hg (fun _ h => h)).2 _ _ _ _ (by decide) h.box
  have hk : Keeps (fun t => t ≠ 29) w7 (w7.setCell ⟨Tb, 0, none⟩ va') := Keeps.setCell (a := ⟨Tb, 0, none⟩) hbx (fun t ht => ht) _
  have hb7 : Below w0.heap.size w0 w7 := h.low.grown hg h.low.size (fun g hg2 => (hx.lt g hg2).1)
  refine ⟨hb7.setCell (p := ⟨Tb, 0, none⟩) h.lo _, h.lo, zq12 hbx 0 va', hr.keeps hk (by decide) (by decide), (h.rb.other h.ra hg (fun g e1 e2 => h.apart g e2 e1)).keeps hk (by decide) (by decide), fun g hg1 hg2 => ?_⟩
  rcases hown with e1 | e1
  · exact h.apart g (e1 ▸ hg1) hg2
  · rw [e1] at hg1
    injection hg1 with hg1
    obtain ⟨ys, hy⟩ := h.rb.own
    have := (hy.lt g hg2).2
    omega
theorem TbS.pushB (h : TbS w0 Tb va vb d c n e s La Lb W) {w7 : World} {vb' : Value} {rs : List RuleZ} (hr : RulesT w0.heap.size w7 vb' (Lb ++ rs)) (hg : W.grownBy w7 vb.ownBlock) (hown : vb'.ownBlock = vb.ownBlock \/ vb'.ownBlock = some W.heap.size) : TbS w0 Tb va vb' d c n e s La (Lb ++ rs) (w7.setCell ⟨Tb, 1, none⟩ vb') := by
  obtain ⟨xs, hx⟩ := h.rb.own
  have hbx : w7.heap[Tb]? = some (.cells #[va, vb, d, c, n, e, s] 29) := (Keeps.grown (T := fun t => t ≠ 59) hx hg (fun _ h => h)).2 _ _ _ _ (by decide) h.box
  have hk : Keeps (fun t => t ≠ 29) w7 (w7.setCell ⟨Tb, 1, none⟩ vb') := Keeps.setCell (a := ⟨Tb, 1, none⟩) hbx (fun t ht => ht) _
  have hb7 : Below w0.heap.size w0 w7 := h.low.grown hg h.low.size (fun g hg2 => (hx.lt g hg2).1)
  refine ⟨hb7.setCell (p := ⟨Tb, 1, none⟩) h.lo _, h.lo, zq12 hbx 1 vb', (h.ra.other h.rb hg (fun g e1 e2 => h.apart g e1 e2)).keeps hk (by decide) (by decide), hr.keeps hk (by decide) (by decide), fun g hg1 hg2 => ?_⟩
  rcases hown with e1 | e1
  · exact h.apart g hg1 (e1 ▸ hg2)
  · rw [e1] at hg2
    injection hg2 with hg2
    obtain ⟨ys, hy⟩ := h.ra.own
    have := (hy.lt g hg1).2
    omega
end
theorem zq39 : (∃ fs, Tryz.prog.underlying 29 = some (.struct fs)) /\ (Tryz.prog.info? 29).map (·.size) = some 7 := by
  constructor
  · have h : (Tryz.prog.underlying 29).map (fun d => match d with | .struct _ => true | _ => false) = some true := by kernel_rfl
    rcases e : Tryz.prog.underlying 29 with _ | d
    · rw [e] at h; cases h
    · rw [e] at h
      cases d with
      | struct fs => exact ⟨fs, rfl⟩
      | _ => simp at h
  · kernel_rfl
def set7 (W : World) (b : Nat) (v0 v1 v2 v3 v4 v5 v6 : Value) : World := ((((((W.setCell ⟨b, 0, none⟩ v0).setCell ⟨b, 1, none⟩ v1).setCell ⟨b, 2, none⟩ v2).setCell ⟨b, 3, none⟩ v3).setCell ⟨b, 4, none⟩ v4).setCell ⟨b, 5, none⟩ v5).setCell ⟨b, 6, none⟩ v6
theorem zq7d {W : World} {b : Nat} {u0 u1 u2 u3 u4 u5 u6 : Value} {t : TypeId} (h : W.heap[b]? = some (.cells #[u0, u1, u2, u3, u4, u5, u6] t)) (v0 v1 v2 v3 v4 v5 v6 : Value) : (set7 W b v0 v1 v2 v3 v4 v5 v6).heap[b]? = some (.cells #[v0, v1, v2, v3, v4, v5, v6] t) := by
  have h0 := zq12 h 0 v0
  rw [show (#[u0, u1, u2, u3, u4, u5, u6] : Array Value).setIfInBounds 0 v0 = #[v0, u1, u2, u3, u4, u5, u6] from rfl] at h0
  have h1 := zq12 h0 1 v1
  rw [show (#[v0, u1, u2, u3, u4, u5, u6] : Array Value).setIfInBounds 1 v1 = #[v0, v1, u2, u3, u4, u5, u6] from rfl] at h1
  have h2 := zq12 h1 2 v2
  rw [show (#[v0, v1, u2, u3, u4, u5, u6] : Array Value).setIfInBounds 2 v2 = #[v0, v1, v2, u3, u4, u5, u6] from rfl] at h2
  have h3 := zq12 h2 3 v3
  rw [show (#[v0, v1, v2, u3, u4, u5, u6] : Array Value).setIfInBounds 3 v3 = #[v0, v1, v2, v3, u4, u5, u6] from rfl] at h3
  have h4 := zq12 h3 4 v4
  rw [show (#[v0, v1, v2, v3, u4, u5, u6] : Array Value).setIfInBounds 4 v4 = #[v0, v1, v2, v3, v4, u5, u6] from rfl] at h4
  have h5 := zq12 h4 5 v5
  rw [show (#[v0, v1, v2, v3, v4, u5, u6] : Array Value).setIfInBounds 5 v5 = #[v0, v1, v2, v3, v4, v5, u6] from rfl] at h5
  have h6 := zq12 h5 6 v6
  rw [show (#[v0, v1, v2, v3, v4, v5, u6] : Array Value).setIfInBounds 6 v6 = #[v0, v1, v2, v3, v4, v5, v6] from rfl] at h6
  exact h6
theorem zq65 (W : World) (b : Nat) (v0 v1 v2 v3 v4 v5 v6 : Value) : Turned (fun x => x = b) W (set7 W b v0 v1 v2 v3 v4 v5 v6) :=
  (((((((Turned.refl (fun x => x = b) W).setCell ⟨b, 0, none⟩ v0 (.inr rfl)).setCell ⟨b, 1, none⟩ v1 (.inr rfl)).setCell ⟨b, 2, none⟩ v2 (.inr rfl)).setCell ⟨b, 3, none⟩ v3 (.inr rfl)).setCell ⟨b, 4, none⟩ v4 (.inr rfl)).setCell ⟨b, 5, none⟩ v5 (.inr rfl)).setCell ⟨b, 6, none⟩ v6 (.inr rfl)
theorem zq70 {W W' : World} {b : Nat} {cur : Array Value} {t : TypeId} {f : Nat × Nat} (h : Turned (fun x => x = b) W W') (hb : W.heap[b]? = some (.cells cur t f)) : Keeps (fun x => x ≠ t) W W' :=
  ⟨h.size, fun x c y fz hy hx => h.cells hx (fun e => by
    rw [e, hb] at hx
    injection hx with hx
    injection hx with _ h3 _
    exact hy h3.symm)⟩
theorem conv1 (c : Int) (t : ByteArray) (ht : [c].foldl (fun r n => r.push (UInt8.ofNat n.toNat)) ByteArray.empty = t) (W : World) (B : Nat) (h : W.cell? ⟨B, 0, none⟩ = some (.int .u8 c)) : (convert 23 9 (.slice (some ⟨B, 0, none⟩) 1 1)).run Tryz.prog W = .ok (.string t) W := by
  rw [run_convert_bytes_string (P := Tryz.prog) W 23 9 5 _ _ _ (by kernel_rfl) (by kernel_rfl) (by kernel_rfl)]
  rw [<- ht]
  exact run_bytesToString (P := Tryz.prog) W ⟨B, 0, none⟩ 1 1 [c] (by go_simp)
end Go.Proofs.YtcfjepcflanjbaaGreat
/- Contracts: two texts are equal. -/
namespace Go.Proofs.YtcfjepcflanjbaaGreat
open Go.RowKit Go.Lab
theorem eq_take_succ {α : Type} [DecidableEq α] {l m : List α} {k : Nat} (h : k < l.length) (h' : k < m.length) (e : l.take k = m.take k) (he : l[k] = m[k]) : l.take (k + 1) = m.take (k + 1) := by
  rw [List.take_succ_eq_append_getElem h, List.take_succ_eq_append_getElem h', e, he]
set_option maxHeartbeats 400000 in
theorem sameSyms_any (v u : Value) (l m : List Sym) (w : World) (h : SymsAt w v l) (h' : SymsAt w u m) :
    Calls Tryz.prog 38 #[v, u] w fun e w' => e = .returned (.bool (decide (l = m))) /\ ∃ n, w' = w.drewN n := by
  obtain ⟨a, cap, rfl, h2, h3⟩ := h.form
  obtain ⟨a', cap', rfl, h2', h3'⟩ := h'.form
  unfold maxLen at h3 h3'
  by_cases hne : l.length = m.length
  · have HL := hidep hne
    have HB : Hid ((((l.length : Int)) != (m.length : Int)) = false) := hidep (by simp [hne])
    clear hne
    have hb := HB.out
    go_enter Tryz.func38, Tryz.ntmps38
    go_wp2
    clear hb
    go_loopw [5] (fun i wr => ∃ k n : Nat, k <= l.length /\ i = .int .i64 k /\ Hid (wr = w.drewN n) /\ Hid (l.take k = m.take k)) (fun i _ => l.length - (intOf i).toNat)
    case atStart => exact ⟨0, 0, Nat.zero_le _, rfl, hidep rfl, hidep rfl⟩
    case round =>
      obtain ⟨k, n, hk, rfl, hw, he⟩ := hrel
      by_cases hlt : k < l.length
      · have hlt' : k < m.length := by have := HL.out; omega
        obtain ⟨b, off, rfl, hb, hc1, hc2⟩ := h.at hlt
        obtain ⟨b', off', rfl, hb', hc1', hc2'⟩ := h'.at hlt'
        have hw' := hw.out
        clear hw
        subst hw'
        have HB : Hid (∀ x y, l[k] = x -> m[k] = y -> (x = y -> l.take (k + 1) = m.take (k + 1)) /\ (x ≠ y -> l ≠ m)) := by
          rintro x y rfl rfl
          exact ⟨eq_take_succ hlt hlt' he.out, fun hxy e => hxy (by subst e; rfl)⟩
        have HB := hidep (HB.out _ _ rfl rfl)
        clear h h'
        generalize l[k] = x at *
        generalize m[k] = y at *
        obtain ⟨x1, x2⟩ := x
        obtain ⟨y1, y2⟩ := y
        simp only at hc1 hc2 hc1' hc2'
        have hI : 0 <= (k : Int) := by omega
        have hI1 : (k : Int) < (l.length : Int) := by omega
        have hI2 : (k : Int) < (m.length : Int) := by omega
        have hE := run_neq_sym x1 x2 y1 y2
        have hG := run_guard_sym
        go_wp2
        go_quiet (fail)
        go_wp2
        · have ht : (!x1 == y1) = true \/ (!x2 == y2) = true := by assumption
          have hne : (⟨x1, x2⟩ : Sym) ≠ ⟨y1, y2⟩ := by
            intro e; injection e with e1 e2; subst e1 e2; simp at ht
          go_ret
          exact ⟨zqb (congrArg _ (decide_eq_false (HB.out.2 hne)).symm), _, World.drewN_drewN ..⟩
        · have ht : (!x1 == y1) = false /\ (!x2 == y2) = false := by assumption
          have he : (⟨x1, x2⟩ : Sym) = ⟨y1, y2⟩ := by
            simp at ht; rw [ht.1, ht.2]
          go_roundw
          case rel => exact ⟨k + 1, _, by omega, by go_num, hidep rfl, hidep (HB.out.1 he)⟩
          case measure => simp [intOf]; omega
      · go_wp2
        have hkl : k = l.length := by omega
        subst hkl
        have hlm : l = m := by
          have := he.out
          rw [List.take_length, HL.out, List.take_length] at this
          exact this
        go_ret
        exact ⟨zqb (congrArg _ (decide_eq_true hlm).symm), n, hw.out⟩
  · have HB : Hid ((((l.length : Int)) != (m.length : Int)) = true) := hidep (by simp; omega)
    have HN : Hid (l ≠ m) := hidep (fun e => hne (by rw [e]))
    clear hne
    have hb := HB.out
    go_enter Tryz.func38, Tryz.ntmps38
    go_wp2
    go_ret
    exact ⟨zqb (congrArg _ (decide_eq_false HN.out).symm), 0, rfl⟩
end Go.Proofs.YtcfjepcflanjbaaGreat
