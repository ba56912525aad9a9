/- Rows of steps with cells of their own; the loop of Next. -/
import Derived.Test.YtcfjepcflanjbaaGreatBr09
import Derived.Test.YtcfjepcflanjbaaGreatBr02
import Derived.Test.YtcfjepcflanjbaaGreatBr06
import Derived.Test.YtcfjepcflanjbaaGreatBr07
namespace Go.Proofs.YtcfjepcflanjbaaGreat
open Go.RowKit Go.Lab Go.Shelf
def stepC (x : StpZ) (u : Value) : List Value := [.int .i64 x.st.lang, .bool x.st.num, .bool x.st.word, .int .i64 (x.n : Nat), u, .int .i64 x.rule]
def zq42 : List StpZ -> List Value -> List Value
  | r :: l, u :: us => stepC r u ++ zq42 l us
  | _, _ => []
theorem stepsC_snoc : ∀ (l : List StpZ) (us : List Value) (r : StpZ) (u : Value), us.length = l.length -> zq42 (l ++ [r]) (us ++ [u]) = zq42 l us ++ stepC r u
  | [], [], r, u, _ => by simp [zq42]
  | [], _ :: _, _, _, h => by simp at h
  | _ :: _, [], _, _, h => by simp at h
  | a :: l, b :: us, r, u, h => by
    have := stepsC_snoc l us r u (by simpa using h)
    simp [zq42, this]
def StepsOwn (ty : TypeId) (base : Nat) (w : World) (v : Value) (l : List StpZ) : Prop :=
  ∃ us : List Value, us.length = l.length /\ w.ownsRow base ty 6 v l.length (zq42 l us) /\ ∀ i (h : i < l.length) (h' : i < us.length), BysAt w us[i] l[i].cells
theorem BysAt.of_own {w : World} {base : Nat} {e : TypeId} {v : Value} {l : List Int} (h : w.ownsRow base e 1 v l.length (byC l)) (hr : ∀ x ∈ l, 0 <= x /\ x < 256) : BysAt w v l := ⟨(Rd.of_own h).mono (fun _ _ => trivial), hr⟩
theorem StepsOwn.one {ty : TypeId} {base : Nat} {X : World} (s : StpZ) (u : Value) (hb : base <= X.heap.size) (hu : BysAt X u s.cells) :
    StepsOwn ty base (X.alloc (.cells (stepC s u).toArray ty)) (.slice (some ⟨X.heap.size, 0, none⟩) 1 1) [s] := by
  refine ⟨[u], rfl, ?_, ?_⟩
  · have h := World.ownsRow_lit X (stepC s u).toArray (e := ty) (size := 6) 1 hb (by decide) rfl
    simpa [zq42] using h
  · intro i h h'
    have hi : i = 0 := by simpa using h
    subst hi
    exact hu.below ((Below.refl _ _).alloc (Nat.le_refl _) _)
theorem zq2 {B : Nat} {e : TypeId} {k : Nat} {v : Value} {n : Nat} {xs : List Value} {w w' : World} (h : w.ownsRow B e k v n xs) (hb : Below w.heap.size w w') : w'.ownsRow B e k v n xs := by
  refine ⟨h.1, ?_⟩
  rcases h.2 with h | ⟨g, cap, cur, rfl, hb0, hg, rest⟩
  · exact .inl h
  · exact .inr ⟨g, cap, cur, rfl, hb0, (hb.block _ (lt_of_block hg)).trans hg, rest⟩
theorem ownsRow_lower {B B' : Nat} {e : TypeId} {k : Nat} {v : Value} {n : Nat} {xs : List Value} {w : World} (h : w.ownsRow B e k v n xs) (hb : B' <= B) : w.ownsRow B' e k v n xs := by
  refine ⟨h.1, ?_⟩
  rcases h.2 with h | ⟨g, cap, cur, h1, hb0, rest⟩
  · exact .inl h
  · exact .inr ⟨g, cap, cur, h1, Nat.le_trans hb hb0, rest⟩
def StepsT (ty : TypeId) (base : Nat) (w : World) (v : Value) (l : List StpZ) : Prop :=
  ∃ us : List Value, us.length = l.length /\ w.ownsRow base ty 6 v l.length (zq42 l us) /\ ∀ i (h : i < l.length) (h' : i < us.length), Rd w (· = 5) 1 us[i] l[i].cells.length (byC l[i].cells) /\ ∀ x ∈ l[i].cells, 0 <= x /\ x < 256
theorem StepsT.below {ty : TypeId} {base : Nat} {w w' : World} {v : Value} {l : List StpZ} (h : StepsT ty base w v l) (hb : Below w.heap.size w w') : StepsT ty base w' v l := by
  obtain ⟨us, h1, h2, h3⟩ := h
  exact ⟨us, h1, zq2 h2 hb, fun i a b => ⟨(h3 i a b).1.below hb, (h3 i a b).2⟩⟩
theorem StepsT.nil (ty : TypeId) (base : Nat) (w : World) : StepsT ty base w (.slice none 0 0) [] := ⟨[], rfl, World.ownsRow_nil _ _ _ _, fun i h => by simp at h⟩
theorem StepsT.own {ty : TypeId} {base base' : Nat} {w : World} {v : Value} {l : List StpZ} (h : StepsT ty base w v l) (hb : base' <= base) : StepsOwn ty base' w v l := by
  obtain ⟨us, h1, h2, h3⟩ := h
  exact ⟨us, h1, ownsRow_lower h2 hb, fun i a b => ⟨(h3 i a b).1.mono (fun _ _ => trivial), (h3 i a b).2⟩⟩
theorem StepsT.push {ty : TypeId} {base : Nat} {w w' : World} {v v' : Value} {l : List StpZ} {us : List Value} {s : StpZ} {u : Value} (hty : ty ≠ 5)
    (h1 : us.length = l.length) (h2 : w.ownsRow base ty 6 v l.length (zq42 l us)) (h3 : ∀ i (h : i < l.length) (h' : i < us.length), Rd w (· = 5) 1 us[i] l[i].cells.length (byC l[i].cells) /\ ∀ x ∈ l[i].cells, 0 <= x /\ x < 256)
    (hu : Rd w (· = 5) 1 u s.cells.length (byC s.cells)) (hr : ∀ x ∈ s.cells, 0 <= x /\ x < 256)
    (ho : w'.ownsRow base ty 6 v' (l.length + 1) (zq42 l us ++ stepC s u)) (hg : w.grownBy w' v.ownBlock) : StepsT ty base w' v' (l ++ [s]) := by
  have hk : Keeps (· = 5) w w' := Keeps.grown h2 hg (fun t ht => by subst ht; exact fun e => hty e.symm)
  refine ⟨us ++ [u], by simp [h1], ?_, ?_⟩
  · rw [stepsC_snoc _ _ _ _ h1, List.length_append]
    exact ho
  · intro i a b
    by_cases hi : i < l.length
    · have hi' : i < us.length := by omega
      rw [List.getElem_append_left hi', List.getElem_append_left hi]
      exact ⟨(h3 i hi hi').1.keeps hk, (h3 i hi hi').2⟩
    · have e1 : i = l.length := by simp at a; omega
      subst e1
      rw [List.getElem_append_right (by omega), List.getElem_append_right (by omega)]
      simp only [Nat.sub_self, h1, List.getElem_cons_zero]
      exact ⟨hu.keeps hk, hr⟩
theorem ruleSteps_snoc (lang : Int) (wd : Bool) (lead : List Int) (l : List Sym) (i : Nat) : ∀ (rs : List RuleZ) (r : RuleZ) (k : Nat),
    zq20 lang wd lead l i (rs ++ [r]) k = zq20 lang wd lead l i rs k ++ (if fitsB r l i = true then [⟨⟨lang, false, wd⟩, r.text.size, lead ++ r.cells, ((k + rs.length : Nat) : Int)⟩] else [])
  | [], r, k => by simp [zq20]
  | a :: rs, r, k => by
    rw [List.cons_append, zq20, ruleSteps_snoc lang wd lead l i rs r (k + 1), zq20, List.append_assoc, List.length_cons, show k + 1 + rs.length = k + (rs.length + 1) from by omega]
theorem ruleSteps_take (lang : Int) (wd : Bool) (lead : List Int) (l : List Sym) (i : Nat) (rs : List RuleZ) (k : Nat) (h : k < rs.length) :
    zq20 lang wd lead l i (rs.take (k + 1)) 0 = zq20 lang wd lead l i (rs.take k) 0 ++ (if fitsB rs[k] l i = true then [⟨⟨lang, false, wd⟩, rs[k].text.size, lead ++ rs[k].cells, (k : Int)⟩] else []) := by
  rw [List.take_succ_eq_append_getElem h, ruleSteps_snoc, List.length_take, Nat.zero_add, Nat.min_eq_left (by omega)]
theorem zq67 (lang : Int) (wd : Bool) (lead : List Int) (l : List Sym) (i : Nat) : ∀ (rs : List RuleZ) (k : Nat), (zq20 lang wd lead l i rs k).length <= rs.length
  | [], _ => by simp [zq20]
  | a :: rs, k => by
    have := zq67 lang wd lead l i rs (k + 1)
    rw [zq20, List.length_append, List.length_cons]
    split <;> simp <;> omega
theorem zq7b {T : TabZ} (hv : zq8 T = 0) : T.l0.all zqf = true /\ T.l1.all zqf = true := by
  unfold zq8 at hv
  split at hv
  · cases hv
  · split at hv
    · cases hv
    · rename_i h2
      rw [Bool.not_eq_false, Bool.and_eq_true, Bool.and_eq_true] at h2
      exact ⟨h2.1, h2.2.1⟩
theorem zqa0 {r : RuleZ} (h : zqf r = true) : 1 <= r.text.size /\ r.text.size <= 8 /\ r.cells.length <= 4 := by
  unfold zqf zqc at h
  simp only [Bool.and_eq_true, decide_eq_true_eq] at h
  omega
theorem zq6d {T : TabZ} (hv : zq8 T = 0) {k : Nat} (hk : k < 2) : ∀ r ∈ (if k = 0 then T.l0 else T.l1), 1 <= r.text.size /\ r.text.size <= 8 /\ r.cells.length <= 4 := by
  intro r hr
  have h := zq7b hv
  rcases (by omega : k = 0 \/ k = 1) with rfl | rfl
  · exact zqa0 (List.all_eq_true.1 h.1 r hr)
  · exact zqa0 (List.all_eq_true.1 h.2 r hr)
end Go.Proofs.YtcfjepcflanjbaaGreat
/- Contracts: the makers' cell, Once, Few. -/
namespace Go.Proofs.YtcfjepcflanjbaaGreat
open Go.RowKit Go.Lab Go.Shelf
set_option maxRecDepth 100000
theorem tdiv_rng {n d : Int} (hd : 1 <= d) (h1 : -9223372036854775808 <= n) (h2 : n <= 9223372036854775807) : -9223372036854775808 <= n.tdiv d /\ n.tdiv d <= 9223372036854775807 := by
  rcases Int.le_total 0 n with h | h
  · rw [Int.tdiv_eq_ediv_of_nonneg h]
    have := Int.ediv_le_self d h
    have := Int.ediv_nonneg h (by omega : 0 <= d)
    omega
  · obtain ⟨m, rfl⟩ : ∃ m, n = -m := ⟨-n, by omega⟩
    rw [Int.neg_tdiv, Int.tdiv_eq_ediv_of_nonneg (by omega)]
    have := Int.ediv_le_self d (by omega : 0 <= m)
    have := Int.ediv_nonneg (by omega : 0 <= m) (by omega : 0 <= d)
    omega
theorem frame21 (t : Array Value) (ds : List Deferred) (h : t.size = 21) : ({ tmps := t, defers := ds } : Act) = { tmps := #[slot t 0, slot t 1, slot t 2, slot t 3, slot t 4, slot t 5, slot t 6, slot t 7, slot t 8, slot t 9, slot t 10, slot t 11, slot t 12, slot t 13, slot t 14, slot t 15, slot t 16, slot t 17, slot t 18, slot t 19, slot t 20], defers := ds } :=
  (congrArg (fun x => ({ tmps := x, defers := ds } : Act)) (zq1e h)).trans (by kernel_rfl)
def CeM (W0 : World) (n k s : Int) : Act -> World -> Prop := fun a W => a.tmps.size = 21 /\ a.defers = [] /\ slot a.tmps 0 = .int .i64 n /\ slot a.tmps 1 = .int .i64 k /\ slot a.tmps 5 = .int .i64 s /\ Below W0.heap.size W0 W
set_option maxHeartbeats 4000000 in
theorem cell_any (n k : Int) (w : World) (h1 : -9223372036854775808 <= n) (h2 : n <= 9223372036854775807) (hk0 : 0 <= k) (hk1 : k <= 1000) :
    Calls Tryz.prog 22 #[.int .i64 n, .int .i64 k] w fun e w' => ∃ c : Int, e = .returned (.int .u8 c) /\ 1 <= c /\ c <= 63 /\ Below w.heap.size w w' := by
  obtain ⟨a, ha⟩ : ∃ a, a = zqd n 10 := ⟨_, rfl⟩
  have har := zqe n 10 (by decide)
  rw [<- ha] at har
  have HA := hidep (fun W => zq14 n 10 W h1 h2)
  rw [<- ha] at HA
  clear ha
  go_enter Tryz.func22, Tryz.ntmps22
  go_upto_region 1 with (fail)
  refine zq17 (fun a W => ∃ s : Int, 1 <= s /\ s <= 17 /\ CeM w n k s a W) ?r1 ?_
  case r1 =>
    intro K' hMK
    rcases (by omega : a = 0 \/ a = 1 \/ a = 2 \/ a = 3 \/ a = 4 \/ a = 5 \/ a = 6 \/ a = 7 \/ a = 8 \/ a = 9) with rfl | rfl | rfl | rfl | rfl | rfl | rfl | rfl | rfl | rfl
    all_goals
      go_wp2_with (go_at_call 9; refine (HA.out _).mono ?_; rintro e w1 ⟨rfl, rfl⟩)
      refine ⟨_, ?_, ?_, by kernel_rfl, rfl, rfl, rfl, rfl, (Below.refl _ _).alloc (Nat.le_refl _) _⟩
      · decide
      · decide
  rintro ⟨tm, ds⟩ W1 ⟨s, hs1, hs2, hts, hds, e0, e1, e5, hb⟩
  dsimp only at hts hds e0 e1 e5
  subst hds
  rw [frame21 tm _ hts, e0, e1, e5]
  clear e0 e1 e5 hts HA
  (try apply_assumption)
  obtain ⟨b, hbz⟩ : ∃ b, b = zqd (n.tdiv 10) 63 := ⟨_, rfl⟩
  have hbr := zqe (n.tdiv 10) 63 (by decide)
  rw [<- hbz] at hbr
  obtain ⟨hq1, hq2⟩ := tdiv_rng (d := 10) (by decide) h1 h2
  have HB := hidep (fun W => zq14 (n.tdiv 10) 63 W hq1 hq2)
  rw [<- hbz] at HB
  obtain ⟨q, hq⟩ : ∃ q, q = k * s := ⟨_, rfl⟩
  have hq0 : 0 <= q := by rw [hq]; exact Int.mul_nonneg hk0 (by omega)
  have hq17 : q <= 17000 := by
    rw [hq]
    have h := Int.mul_le_mul hk1 hs2 (by omega) (by omega)
    omega
  have hwq : IntKind.i64.wrap (k * s) = q := by rw [<- hq]; exact IntWalk.i64_in _ (by omega)
  have hwd : IntKind.i64.wrap (n.tdiv 10) = n.tdiv 10 := IntWalk.i64_in _ (by omega)
  have hws : IntKind.i64.wrap (q + b) = q + b := IntWalk.i64_in _ (by omega)
  have HBB := hidep hb
  clear hbz hq hb
  go_wp2_with (go_at_call 9; refine (HB.out _).mono ?_; rintro e w1 ⟨rfl, rfl⟩)
  go_ret
  exact ⟨_, rfl, by omega, by omega, HBB.out⟩
/-! ### Once -/
def zq3a (out : List RuleZ) (x : RuleZ) : Bool := out.all fun o => !sameR o x
def onceG : List RuleZ -> List RuleZ -> List RuleZ
  | out, [] => out
  | out, x :: l => onceG (if zq3a out x = true then out ++ [x] else out) l
def onceZ (l : List RuleZ) : List RuleZ := onceG [] l
def zq24 (l : List RuleZ) (k : Nat) : List RuleZ := onceZ (l.take k)
theorem onceG_append : ∀ (l m : List RuleZ) (out : List RuleZ), onceG out (l ++ m) = onceG (onceG out l) m
  | [], _, _ => rfl
  | _ :: l, m, _ => onceG_append l m _
theorem zq66 {l : List RuleZ} {k : Nat} (h : k < l.length) : zq24 l (k + 1) = if zq3a (zq24 l k) l[k] = true then zq24 l k ++ [l[k]] else zq24 l k := by
  unfold zq24 onceZ
  rw [List.take_succ_eq_append_getElem h, onceG_append]
  rfl
theorem zqb2 (l : List RuleZ) : ∀ k, k <= l.length -> (zq24 l k).length <= k
  | 0, _ => by simp [zq24, onceZ, onceG]
  | k + 1, h => by
    have := zqb2 l k (by omega)
    rw [zq66 (by omega)]
    split
    · rw [List.length_append, List.length_singleton]; omega
    · omega
theorem zqb4 (l : List RuleZ) : ∀ k, k <= l.length -> ∀ x ∈ zq24 l k, x ∈ l
  | 0, _, x, hx => by simp [zq24, onceZ, onceG] at hx
  | k + 1, h, x, hx => by
    rw [zq66 (by omega)] at hx
    split at hx
    · rcases List.mem_append.1 hx with hx | hx
      · exact zqb4 l k (by omega) x hx
      · rw [List.mem_singleton] at hx
        rw [hx]
        exact List.getElem_mem _
    · exact zqb4 l k (by omega) x hx
def RulesFrom (Q : Value -> RuleZ -> Prop) (base : Nat) (w wr : World) (v : Value) (L : List RuleZ) : Prop :=
  ∃ us : List Value, us.length = L.length /\ wr.ownsRow base 59 3 v L.length (zq10 L us) /\ ∀ i (h : i < L.length) (h' : i < us.length), BysAt w us[i] L[i].cells /\ Q us[i] L[i]
def RulesQ (Q : Value -> RuleZ -> Prop) (w : World) (v : Value) (l : List RuleZ) : Prop :=
  ∃ us : List Value, us.length = l.length /\ Rd w (fun _ => True) 3 v l.length (zq10 l us) /\ ∀ i (h : i < l.length) (h' : i < us.length), BysAt w us[i] l[i].cells /\ Q us[i] l[i]
theorem RulesQ.at {Q : Value -> RuleZ -> Prop} {w : World} {v : Value} {l : List RuleZ} (h : RulesQ Q w v l) : RulesAt w v l := by
  obtain ⟨us, h1, h2, h3⟩ := h
  exact ⟨us, h1, h2, fun i a b => (h3 i a b).1⟩
theorem RulesQ.get {Q : Value -> RuleZ -> Prop} {w : World} {a : Option Addr} {c : Nat} {l : List RuleZ} (h : RulesQ Q w (.slice a l.length c) l) {k : Nat} (hk : k < l.length) :
    ∃ b off ua un uc, a = some ⟨b, off, none⟩ /\ b < w.heap.size /\ w.cell? ⟨b, off + k * 3, none⟩ = some (.string l[k].text) /\ w.cell? ⟨b, off + k * 3 + 1, none⟩ = some (.int .i64 l[k].wh) /\ w.cell? ⟨b, off + k * 3 + 2, none⟩ = some (.slice ua un uc) /\ BysAt w (.slice ua un uc) l[k].cells /\ Q (.slice ua un uc) l[k] := by
  obtain ⟨us, hl, hr, hs⟩ := h
  obtain ⟨b, off, e, hb, hc⟩ := Rd.at hr (by omega)
  have hk' : k < us.length := by omega
  have hq := hs k hk hk'
  obtain ⟨ua, uc, hu, _, _⟩ := hq.1.1.form
  have hcc : ∀ j x, j < 3 -> (ruleC l[k] us[k])[j]? = some x -> w.cell? ⟨b, off + k * 3 + j, none⟩ = some x := fun j x hj hx => by
    rw [Nat.add_assoc]
    apply hc
    rw [zq5f l us k j hk hk' hj]
    exact hx
  rw [hu] at hcc hq
  exact ⟨b, off, ua, _, uc, e, hb, hcc 0 _ (by omega) rfl, hcc 1 _ (by omega) rfl, hcc 2 _ (by omega) rfl, hq.1, hq.2⟩
theorem RulesFrom.below {Q : Value -> RuleZ -> Prop} {base : Nat} {w wr wr' : World} {v : Value} {L : List RuleZ} (h : RulesFrom Q base w wr v L) (hb : Below wr.heap.size wr wr') : RulesFrom Q base w wr' v L := by
  obtain ⟨us, h1, h2, h3⟩ := h
  exact ⟨us, h1, zq2 h2 hb, h3⟩
theorem RulesFrom.at {Q : Value -> RuleZ -> Prop} {base : Nat} {w wr : World} {v : Value} {L : List RuleZ} (h : RulesFrom Q base w wr v L) (hb : Below w.heap.size w wr) : RulesAt wr v L := by
  obtain ⟨us, h1, h2, h3⟩ := h
  exact ⟨us, h1, (Rd.of_own h2).mono (fun _ _ => trivial), fun i a b => (h3 i a b).1.below hb⟩
theorem zq36 : SlT Tryz.prog 24 59 (.agg #[.string ByteArray.empty, .int .i64 0, .slice none 0 0]) 3 48 := ⟨by kernel_rfl, by kernel_rfl, rfl, by decide⟩
theorem frame55 (t : Array Value) (ds : List Deferred) (h : t.size = 55) : ({ tmps := t, defers := ds } : Act) = { tmps := #[slot t 0, slot t 1, slot t 2, slot t 3, slot t 4, slot t 5, slot t 6, slot t 7, slot t 8, slot t 9, slot t 10, slot t 11, slot t 12, slot t 13, slot t 14, slot t 15, slot t 16, slot t 17, slot t 18, slot t 19, slot t 20, slot t 21, slot t 22, slot t 23, slot t 24, slot t 25, slot t 26, slot t 27, slot t 28, slot t 29, slot t 30, slot t 31, slot t 32, slot t 33, slot t 34, slot t 35, slot t 36, slot t 37, slot t 38, slot t 39, slot t 40, slot t 41, slot t 42, slot t 43, slot t 44, slot t 45, slot t 46, slot t 47, slot t 48, slot t 49, slot t 50, slot t 51, slot t 52, slot t 53, slot t 54], defers := ds } :=
  (congrArg (fun x => ({ tmps := x, defers := ds } : Act)) (zq1e h)).trans (by kernel_rfl)
def VOo (Q : Value -> RuleZ -> Prop) (l : List RuleZ) (base : Nat) (w : World) (ov iv : Value) (wr : World) : Prop :=
  ∃ k : Nat, k <= l.length /\ iv = .int .i64 (k : Nat) /\ RulesFrom Q base w wr ov (zq24 l k) /\ Below w.heap.size w wr
def VOi (L : List RuleZ) (x : RuleZ) (w1 : World) (fv iv : Value) (wr : World) : Prop :=
  ∃ j : Nat, j <= L.length /\ iv = .int .i64 (j : Nat) /\ fv = .bool (zq3a (L.take j) x) /\ Below w1.heap.size w1 wr
theorem freshB_succ {L : List RuleZ} {x : RuleZ} {j : Nat} (h : j < L.length) : zq3a (L.take (j + 1)) x = (zq3a (L.take j) x && !sameR L[j] x) := by
  unfold zq3a
  rw [List.take_succ_eq_append_getElem h, List.all_append]
  simp
set_option maxHeartbeats 4000000 in
theorem once_any (Q : Value -> RuleZ -> Prop) (v : Value) (l : List RuleZ) (w : World) (h : RulesQ Q w v l) (hok : ∀ r ∈ l, zq3e r) (hl : l.length <= 100000) :
    Calls Tryz.prog 23 #[v] w fun e w' => ∃ u, e = .returned u /\ RulesFrom Q w.heap.size w w' u (onceZ l) /\ Below w.heap.size w w' := by
  obtain ⟨a, c, rfl, hlc, hlm⟩ := h.at.form
  unfold maxLen at hlm
  have H := hidep h
  have HOK := hidep hok
  obtain ⟨n, hn⟩ : ∃ n, n = l.length := ⟨_, rfl⟩
  have HN := hidep hn
  rw [<- hn] at hlc hl ⊢
  clear h hok hn
  go_enter Tryz.func23, Tryz.ntmps23
  go_upto_region 3 with (fail)
  refine wp_loop (LoopI 55 (fun tm ds wr => (slot tm 0) = .slice a n c /\ ds = [] /\ VOo Q l w.heap.size w (slot tm 3) (slot tm 4) wr)) (fun a' wr => n - natI (a'.tmps.getD 4 undef)) ?olStart ?olRound
  case' olStart => refine LoopI.mk rfl ?_
  case' olRound => (rintro ⟨t, ds⟩ wr ⟨hts, hrel⟩; dsimp only at hts hrel; rw [frame55 t ds hts])
  case olStart => exact ⟨rfl, rfl, 0, Nat.zero_le _, rfl, ⟨[], rfl, World.ownsRow_nil _ _ _ _, fun i h => by simp [zq24, onceZ, onceG] at h⟩, Below.refl _ _⟩
  obtain ⟨e0, hds, k, hk, e4, hrow, hbw⟩ := hrel
  subst hds
  rw [<- HN.out] at hk
  obtain ⟨L, hL⟩ : ∃ L, L = zq24 l k := ⟨_, rfl⟩
  rw [<- hL] at hrow
  obtain ⟨ov, hov⟩ : ∃ x, x = slot t 3 := ⟨_, rfl⟩
  rw [<- hov] at hrow
  obtain ⟨oa, oc, rfl, hoc, hom⟩ := (hrow.at hbw).form
  rw [e0, e4, <- hov]
  clear e0 e4 hov hts
  unfold maxLen at hom
  have HL := hidep hL
  have HROW := hidep hrow
  have HBW := hidep hbw
  have hLn : L.length <= k := by rw [hL]; exact zqb2 l k (by rw [<- HN.out]; exact hk)
  obtain ⟨m, hm⟩ : ∃ m, m = L.length := ⟨_, rfl⟩
  have HM := hidep hm
  rw [<- hm] at hoc hLn ⊢
  clear hrow hbw hL hm
  by_cases hkn : k < n
  · have hki : (k : Int) < (n : Int) := by omega
    have hk0 : (0 : Int) <= (k : Int) := by omega
    have hwk : IntKind.i64.wrap ((k : Int) + 1) = (k : Int) + 1 := IntWalk.i64_in _ (by omega)
    have hkl : k < l.length := by rw [<- HN.out]; exact hkn
    obtain ⟨b, off, ua, un, uc, rfl, hb, x0, x1, x2, hux⟩ := H.out.get hkl
    obtain ⟨x, hx⟩ : ∃ x, x = l[k] := ⟨_, rfl⟩
    have HX := hidep hx
    rw [<- hx] at x0 x1 hux
    have hxo : zq3e x := by rw [hx]; exact HOK.out _ (List.getElem_mem hkl)
    have HXO := hidep hxo
    have HXC := hidep (fun (Z : World) (hZ : Below w.heap.size w Z) => And.intro ((hZ.cell (p := ⟨b, off + k * 3, none⟩) hb).trans x0) (And.intro ((hZ.cell (p := ⟨b, off + k * 3 + 1, none⟩) hb).trans x1) ((hZ.cell (p := ⟨b, off + k * 3 + 2, none⟩) hb).trans x2)))
    have HUX := hidep hux
    clear hx x0 x1 x2 hux hxo hb
    obtain ⟨xs, xw, xc⟩ := x
    simp only at HXC HUX
    obtain ⟨wo, hwo⟩ : ∃ wo : World, wo = wr := ⟨_, rfl⟩
    rw [<- hwo] at HROW HBW ⊢
    clear hwo
    go_upto_region 7 with (fail)
    refine wp_loop (LoopI 55 (fun tm ds wr => (slot tm 0) = .slice (some ⟨b, off, none⟩) n c /\ (slot tm 3) = .slice oa m oc /\ (slot tm 4) = .int .i64 (k : Nat) /\ ds = [] /\ VOi L ⟨xs, xw, xc⟩ wo (slot tm 5) (slot tm 6) wr)) (fun a' wr => m - natI (a'.tmps.getD 6 undef)) ?ilStart ?ilRound
    case' ilStart => refine LoopI.mk rfl ?_
    case' ilRound => (rintro ⟨t, ds⟩ wr ⟨hts, hrel⟩; dsimp only at hts hrel; rw [frame55 t ds hts])
    case ilStart => exact ⟨rfl, rfl, rfl, rfl, 0, Nat.zero_le _, rfl, rfl, Below.refl _ _⟩
    obtain ⟨e0, e3, e4, hds, j, hj, e6, e5, hbi⟩ := hrel
    subst hds
    rw [e0, e3, e4, e5, e6]
    clear e0 e3 e4 e5 e6 hts
    rw [<- HM.out] at hj
    by_cases hjm : j < m
    · have hji : (j : Int) < (m : Int) := by omega
      have hj0 : (0 : Int) <= (j : Int) := by omega
      have hwj : IntKind.i64.wrap ((j : Int) + 1) = (j : Int) + 1 := IntWalk.i64_in _ (by omega)
      have hjL : j < L.length := by rw [<- HM.out]; exact hjm
      have hbwi := HBW.out.trans (hbi.mono HBW.out.size)
      have hat := (HROW.out.below hbi).at hbwi
      obtain ⟨b2, off2, ua2, un2, uc2, rfl, hb2, y0, y1, _, _⟩ := zq4e hat hjL
      have HFS := hidep (freshB_succ (x := ⟨xs, xw, xc⟩) hjL)
      obtain ⟨y, hy⟩ : ∃ y, y = L[j] := ⟨_, rfl⟩
      rw [<- hy] at y0 y1 HFS
      obtain ⟨ys, yw, yc⟩ := y
      simp only at y0 y1
      obtain ⟨f, hf⟩ : ∃ f, f = zq3a (L.take j) ⟨xs, xw, xc⟩ := ⟨_, rfl⟩
      rw [<- hf] at HFS ⊢
      obtain ⟨x0, x1, _⟩ := HXC.out wr hbwi
      have HBI := hidep hbi
      clear hy hf hat hbwi hbi
      go_upto_region 9 with (fail)
      cases f with
      | false =>
        have HFS2 := hidep (show zq3a (L.take (j + 1)) ⟨xs, xw, xc⟩ = false from by rw [HFS.out]; rfl)
        go_quiet (fail)
        (try dsimp only [Exit.inBlock, Exit.then])
        try apply_assumption
        go_wp2
        refine ⟨LoopI.mk rfl ⟨rfl, rfl, rfl, rfl, j + 1, by rw [<- HM.out]; omega, by show Value.int _ _ = _; go_num, by rw [HFS2.out]; rfl, HBI.out.trans ((zq6 (Below.refl _ _) _).mono HBI.out.size)⟩, ?_⟩
        show m - _ < m - _
        simp [natI]; omega
      | true =>
        by_cases hts : ys = xs
        · have g1 : (ys.toList != xs.toList) = false := by simp [hts]
          have g1' : (ys.toList == xs.toList) = true := by simp [hts]
          by_cases htw : yw = xw
          · have g2 : (yw != xw) = false := by simp [htw]
            have HFS2 := hidep (show zq3a (L.take (j + 1)) ⟨xs, xw, xc⟩ = false from by rw [HFS.out]; unfold sameR; simp only; rw [decide_eq_true hts, decide_eq_true htw]; rfl)
            clear hts htw
            go_quiet (fail)
            (try dsimp only [Exit.inBlock, Exit.then])
            try apply_assumption
            go_wp2
            refine ⟨LoopI.mk rfl ⟨rfl, rfl, rfl, rfl, j + 1, by rw [<- HM.out]; omega, by show Value.int _ _ = _; go_num, by rw [HFS2.out]; rfl, HBI.out.trans ((zq6 (Below.refl _ _) _).mono HBI.out.size)⟩, ?_⟩
            show m - _ < m - _
            simp [natI]; omega
          · have g2 : (yw != xw) = true := by simp [htw]
            have HFS2 := hidep (show zq3a (L.take (j + 1)) ⟨xs, xw, xc⟩ = true from by rw [HFS.out]; unfold sameR; simp only; rw [decide_eq_false htw, Bool.and_false]; rfl)
            clear hts htw
            go_quiet (fail)
            (try dsimp only [Exit.inBlock, Exit.then])
            try apply_assumption
            go_wp2
            refine ⟨LoopI.mk rfl ⟨rfl, rfl, rfl, rfl, j + 1, by rw [<- HM.out]; omega, by show Value.int _ _ = _; go_num, by rw [HFS2.out]; rfl, HBI.out.trans ((zq6 (Below.refl _ _) _).mono HBI.out.size)⟩, ?_⟩
            show m - _ < m - _
            simp [natI]; omega
        · have g1 : (ys.toList != xs.toList) = true := by simp only [bne_iff_ne, ne_eq]; exact fun h => hts (zq71 h)
          have g1' : (ys.toList == xs.toList) = false := by simp only [beq_eq_false_iff_ne, ne_eq]; exact fun h => hts (zq71 h)
          have HFS2 := hidep (show zq3a (L.take (j + 1)) ⟨xs, xw, xc⟩ = true from by rw [HFS.out]; unfold sameR; simp only; rw [decide_eq_false hts, Bool.false_and]; rfl)
          clear hts
          go_quiet (fail)
          (try dsimp only [Exit.inBlock, Exit.then])
          try apply_assumption
          go_wp2
          refine ⟨LoopI.mk rfl ⟨rfl, rfl, rfl, rfl, j + 1, by rw [<- HM.out]; omega, by show Value.int _ _ = _; go_num, by rw [HFS2.out]; rfl, HBI.out.trans ((zq6 (Below.refl _ _) _).mono HBI.out.size)⟩, ?_⟩
          show m - _ < m - _
          simp [natI]; omega
    · have hjie : ¬ (j : Int) < (m : Int) := by omega
      have hje : j = L.length := by rw [<- HM.out]; omega
      have HFF := hidep (show zq3a (L.take j) ⟨xs, xw, xc⟩ = zq3a L ⟨xs, xw, xc⟩ from by rw [hje, List.take_length])
      have HTS := hidep (show zq24 l (k + 1) = if zq3a L ⟨xs, xw, xc⟩ = true then L ++ [⟨xs, xw, xc⟩] else L from by rw [zq66 (by rw [<- HN.out]; exact hkn), <- HX.out, <- HL.out])
      obtain ⟨f, hf⟩ : ∃ f, f = zq3a L ⟨xs, xw, xc⟩ := ⟨_, rfl⟩
      rw [HFF.out, <- hf]
      rw [<- hf] at HTS
      have hbwi := HBW.out.trans (hbi.mono HBW.out.size)
      have hri := HROW.out.below hbi
      have HRI := hidep (And.intro hri hbwi)
      obtain ⟨x0, x1, x2⟩ := HXC.out wr hbwi
      clear hf hje hri hbwi hbi HFF
      cases f with
      | false =>
        have HT2 := hidep (show zq24 l (k + 1) = L from HTS.out.trans (if_neg (by simp)))
        go_wp2
        refine ⟨LoopI.mk rfl ⟨rfl, rfl, k + 1, by rw [<- HN.out]; omega, by show Value.int _ _ = _; go_num, by rw [HT2.out]; have hq := HRI.out.1; rw [<- HM.out] at hq; exact hq, HRI.out.2⟩, ?_⟩
        show n - _ < n - _
        simp [natI]; omega
      | true =>
        have HT2 := hidep (show zq24 l (k + 1) = L ++ [⟨xs, xw, xc⟩] from HTS.out.trans (if_pos rfl))
        obtain ⟨us, hus, hown, hcs⟩ := HRI.out.1
        have HUS := hidep (And.intro hus hcs)
        have hlen : m = L.length := HM.out
        rw [<- hlen] at hown
        clear hus hcs hlen
        have hw0 : w.heap.size <= wr.heap.size := HRI.out.2.size
        go_upto_region 4 with (at_builtin; refine zq4 _ rfl _ _ rfl zq36 w.heap.size _ _ _ rfl (zq2 hown ((Below.refl _ _).alloc (Nat.le_refl _) _)) _ _ _ _ rfl (zq28 (heap_alloc_new _ _)) (by intro u hu; simp at hu; rcases hu with rfl | rfl | rfl <;> rfl) (by unfold maxLen; omega) (by omega) (by rw [World.size_alloc]; omega) ?_; intro v7 w7 ho7 hg7 hown7 hnl7; clear hown7 hnl7)
        have hb7 : Below w.heap.size w w7 := (HRI.out.2.alloc hw0 _).grown hg7 (by rw [World.size_alloc]; omega) (fun g hg => (hown.lt g hg).1)
        have hf : RulesFrom Q w.heap.size w w7 v7 (L ++ [⟨xs, xw, xc⟩]) := by
          refine ⟨us ++ [.slice ua un uc], by simp [HUS.out.1], ?_, fun i h h' => ?_⟩
          · rw [rulesC_snoc _ _ _ _ HUS.out.1, List.length_append, List.length_singleton, <- HM.out]
            exact ho7
          · by_cases hi : i < L.length
            · rw [List.getElem_append_left hi, List.getElem_append_left (by rw [HUS.out.1]; exact hi)]
              exact HUS.out.2 i hi _
            · have hie : i = L.length := by simp at h; omega
              subst hie
              rw [List.getElem_append_right (Nat.le_refl _), List.getElem_append_right (by rw [HUS.out.1]; exact Nat.le_refl _)]
              simp only [HUS.out.1, Nat.sub_self, List.getElem_cons_zero]
              exact HUX.out
        have HF := hidep (And.intro hf hb7)
        clear ho7 hg7 hb7 hf hown
        go_wp2
        refine ⟨LoopI.mk rfl ⟨rfl, rfl, k + 1, by rw [<- HN.out]; omega, by show Value.int _ _ = _; go_num, by rw [HT2.out]; exact HF.out.1, HF.out.2⟩, ?_⟩
        show n - _ < n - _
        simp [natI]; omega
  · have hki : ¬ (k : Int) < (n : Int) := by omega
    have HE := hidep (show onceZ l = L from by
      have : k = l.length := by rw [<- HN.out]; omega
      rw [HL.out, this]
      unfold zq24
      rw [List.take_length])
    go_wp2
    go_ret
    exact ⟨_, rfl, by rw [HE.out, HM.out]; exact HROW.out, HBW.out⟩
end Go.Proofs.YtcfjepcflanjbaaGreat
