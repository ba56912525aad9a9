/- Plain: the texts that are read from a place; the first ones; a text's cells are good as a whole; the beginning of cells. -/
import Derived.Test.YtcfjepcflanjbaaGreatBr22
import Derived.Test.YtcfjepcflanjbaaGreatBr48
import Derived.Test.YtcfjepcflanjbaaGreatBr45
import Derived.Test.YtcfjepcflanjbaaGreatBr02
import Derived.Test.YtcfjepcflanjbaaGreatBr33
namespace Go.Proofs.YtcfjepcflanjbaaGreat
open Go.RowKit Go.Lab Go.Shelf
theorem symCmp_self (x : Sym) : zq35 x x = 0 := by
  rcases zq30 x x with ⟨_, h⟩ | ⟨h, _⟩ | ⟨_, h⟩
  · rcases h with h | h
    · exact absurd h (by omega)
    · exact absurd h.2 (by omega)
  · exact h
  · rcases h with h | h
    · exact absurd h (by omega)
    · exact absurd h.2 (by omega)
theorem textCmp_pre (a b : List Sym) : ∀ p : List Sym, zq13 (p ++ a) (p ++ b) = zq13 a b
  | [] => rfl
  | x :: p => by
    show (if zq35 x x ≠ 0 then zq35 x x else zq13 (p ++ a) (p ++ b)) = _
    rw [symCmp_self, if_neg (fun h => h rfl)]
    exact textCmp_pre a b p
theorem LtT.pre {a b : List Sym} (h : LtT a b) (p : List Sym) : LtT (p ++ a) (p ++ b) := by
  unfold LtT at *
  rw [textCmp_pre]
  exact h
/-! ### cells in common -/
theorem comm_of_begB : ∀ {X c : List Int}, begB X c = true -> comm X c = c.length
  | [], [], _ => rfl
  | [], _ :: _, h => by simp [begB] at h
  | _ :: _, [], _ => by simp [comm]
  | x :: X, y :: c, h => by
    have h1 : (x :: X).take (y :: c).length = y :: c := of_decide_eq_true h
    simp only [List.length_cons, List.take_succ_cons] at h1
    injection h1 with e1 e2
    have := comm_of_begB (X := X) (c := c) (decide_eq_true e2)
    unfold comm
    rw [if_pos e1, this]
    rfl
end Go.Proofs.YtcfjepcflanjbaaGreat
/- The reference's Good: what is marked so far (plain), and the marks in memory. -/
namespace Go.Proofs.YtcfjepcflanjbaaGreat
open Go.RowKit Go.Lab Go.Shelf
set_option maxRecDepth 100000
theorem begB_of_comm : ∀ {X c : List Int}, comm X c = c.length -> begB X c = true
  | [], [], _ => rfl
  | [], _ :: _, h => by simp [comm] at h
  | _ :: _, [], _ => by simp [begB]
  | x :: X, y :: c, h => by
    unfold comm at h
    split at h
    · rename_i e
      have h1 : comm X c = c.length := by simpa using h
      have h2 : X.take c.length = c := of_decide_eq_true (begB_of_comm h1)
      unfold begB
      simp [e, h2]
    · simp at h
theorem comm_beg (X c : List Int) : decide (comm X c = c.length) = begB X c := by
  rw [Bool.eq_iff_iff, decide_eq_true_eq]
  exact ⟨begB_of_comm, comm_of_begB⟩
abbrev MetF := Nat -> Nat -> Bool
def updM (met : MetF) (a c : Nat) : MetF := fun a' c' => if a' = a /\ c' = c then true else met a' c'
theorem updM_mono {met : MetF} {a c a' c' : Nat} (h : met a' c' = true) : updM met a c a' c' = true := by
  unfold updM
  split
  · rfl
  · exact h
theorem updM_row {met : MetF} {a c a' c' : Nat} (h : a' ≠ a) : updM met a c a' c' = met a' c' := by
  unfold updM
  rw [if_neg (fun e => h e.1)]
structure GdI (T : TabZ) (C : List Int) (pos k i : Nat) (met : MetF) (g : Nat) : Prop where
  snd : ∀ a c, c < 48 -> met a c = true -> a <= C.length /\ Reach T C a (zq15 c)
  start : met 0 0 = true
  cls : ∀ a c, c < 48 -> met a c = true -> (a < pos \/ a = pos /\ c < k) -> ∀ m ∈ zqa T (zq15 c), a + comm (C.drop a) m.cells <= g /\ (begB (C.drop a) m.cells = true -> met (a + m.cells.length) (codeN m.dst) = true)
  cur : met pos k = true -> ∀ m ∈ (zqa T (zq15 k)).take i, pos + comm (C.drop pos) m.cells <= g /\ (begB (C.drop pos) m.cells = true -> met (pos + m.cells.length) (codeN m.dst) = true)
  at_ : g = 0 \/ ∃ a p m, a <= C.length /\ Reach T C a p /\ m ∈ zqa T p /\ g = a + comm (C.drop a) m.cells
def met0 : MetF := fun a c => decide (a = 0 /\ c = 0)
theorem gdI_start (T : TabZ) (C : List Int) : GdI T C 0 0 0 met0 0 where
  snd := fun a c _ h => by
    have := of_decide_eq_true h
    obtain ⟨rfl, rfl⟩ := this
    exact ⟨Nat.zero_le _, (by decide : zq15 0 = pl0) ▸ Reach.start⟩
  start := rfl
  cls := fun a c _ _ h => by omega
  cur := fun _ m hm => by simp at hm
  at_ := .inl rfl
theorem GdI.step {T : TabZ} {C : List Int} {pos k i g g' : Nat} {met : MetF} {m : MvZ} (h : GdI T C pos k i met g) (hv : zq8 T = 0) (hk : k < 48) (hp : pos <= C.length) (hmet : met pos k = true) (hi : i < (zqa T (zq15 k)).length) (hm : m = (zqa T (zq15 k))[i]) (hg : g' = max g (pos + comm (C.drop pos) m.cells)) :
    GdI T C pos k (i + 1) (if begB (C.drop pos) m.cells = true then updM met (pos + m.cells.length) (codeN m.dst) else met) g' := by
  have hmm : m ∈ zqa T (zq15 k) := by rw [hm]; exact List.getElem_mem hi
  have hmv := zq2f hv (zq95 hk) hmm
  have hR := (h.snd pos k hk hmet).2
  have hmono : ∀ a c, met a c = true -> (if begB (C.drop pos) m.cells = true then updM met (pos + m.cells.length) (codeN m.dst) else met) a c = true := fun a c e => by
    split
    · exact updM_mono e
    · exact e
  have hback : ∀ a c, a <= pos -> (if begB (C.drop pos) m.cells = true then updM met (pos + m.cells.length) (codeN m.dst) else met) a c = true -> met a c = true := fun a c ha e => by
    split at e
    · rw [updM_row (by omega)] at e
      exact e
    · exact e
  refine ⟨fun a c hc e => ?_, hmono _ _ h.start, fun a c hc e hac m' hm' => ?_, fun e m' hm' => ?_, ?_⟩
  · split at e
    · rename_i hb
      unfold updM at e
      split at e
      · rename_i hac
        obtain ⟨rfl, rfl⟩ := hac
        rw [zq72 hmv.1]
        exact ⟨zq4b hp hb, .move hR hp hmm hb⟩
      · exact h.snd a c hc e
    · exact h.snd a c hc e
  · obtain ⟨h1, h2⟩ := h.cls a c hc (hback a c (by omega) e) hac m' hm'
    exact ⟨by omega, fun b => hmono _ _ (h2 b)⟩
  · rw [List.take_succ_eq_append_getElem hi, <- hm] at hm'
    rcases List.mem_append.1 hm' with hm' | hm'
    · obtain ⟨h1, h2⟩ := h.cur (hback _ _ (Nat.le_refl _) e) m' hm'
      exact ⟨by omega, fun b => hmono _ _ (h2 b)⟩
    · rw [List.mem_singleton] at hm'
      subst hm'
      refine ⟨by omega, fun b => ?_⟩
      rw [if_pos b]
      unfold updM
      rw [if_pos ⟨rfl, rfl⟩]
  · rcases Nat.le_total g (pos + comm (C.drop pos) m.cells) with hl | hl
    · exact .inr ⟨pos, zq15 k, m, hp, hR, hmm, by omega⟩
    · rw [show g' = g by omega]
      exact h.at_
theorem GdI.next {T : TabZ} {C : List Int} {pos k i g : Nat} {met : MetF} (h : GdI T C pos k i met g) (he : met pos k = false \/ i = (zqa T (zq15 k)).length) : GdI T C pos (k + 1) 0 met g := by
  refine ⟨h.snd, h.start, fun a c hc e hac m' hm' => ?_, fun _ m' hm' => by simp at hm', h.at_⟩
  by_cases hck : a = pos /\ c = k
  · obtain ⟨rfl, rfl⟩ := hck
    rcases he with he | he
    · rw [he] at e; cases e
    · exact h.cur e m' (by rw [he, List.take_length]; exact hm')
  · exact h.cls a c hc e (by omega) m' hm'
theorem GdI.row {T : TabZ} {C : List Int} {pos g : Nat} {met : MetF} (h : GdI T C pos 48 0 met g) : GdI T C (pos + 1) 0 0 met g :=
  ⟨h.snd, h.start, fun a c hc e hac m' hm' => h.cls a c hc e (by omega) m' hm', fun _ m' hm' => by simp at hm', h.at_⟩
theorem reach_ok {T : TabZ} {C : List Int} (hv : zq8 T = 0) {a : Nat} {p : PlZ} (h : Reach T C a p) : PlOk p := by
  induction h with
  | start => exact zqa2
  | move _ _ hm _ ih => exact (zq2f hv ih hm).1
theorem GdI.good {T : TabZ} {C : List Int} {g : Nat} {met : MetF} (h : GdI T C (C.length + 1) 0 0 met g) (hv : zq8 T = 0) : g = goodZ T C := by
  have hall : ∀ a p, Reach T C a p -> a <= C.length -> met a (codeN p) = true := fun a p hr => by
    induction hr with
    | start => exact fun _ => h.start
    | @move a p m hr ha hm hb ih =>
      intro _
      have hp := reach_ok hv hr
      have := h.cls a (codeN p) (zqa5 hp) (ih ha) (by omega) m (by rw [zq72 hp]; exact hm)
      exact this.2 hb
  refine IsGood.one (C := C) (T := T) ⟨fun a p m ha hr hm => ?_, h.at_⟩ (goodZ_is hv)
  have hp := reach_ok hv hr
  exact (h.cls a (codeN p) (zqa5 hp) (hall a p hr ha) (by omega) m (by rw [zq72 hp]; exact hm)).1
/-! ### memory -/
theorem slBoolss : SlT Tryz.prog 136 137 (.slice none 0 0) 1 24 := ⟨by kernel_rfl, by kernel_rfl, rfl, by decide⟩
theorem slBools : SlT Tryz.prog 137 4 (.bool false) 1 1 := ⟨by kernel_rfl, by kernel_rfl, rfl, by decide⟩
theorem madeB (n : Nat) : madeCells #[Value.bool false] n = (List.replicate n (Value.bool false)).toArray := by
  apply Array.ext
  · simp [madeCells]
  · intro i h1 h2
    simp [madeCells, Nat.mod_one]
def MetMk (B0 Kb n i : Nat) (Rf : Nat -> Nat) (W : World) : Prop :=
  (∃ cur, W.heap[Kb]? = some (.cells cur 137) /\ cur.size = n + 1 /\ ∀ a, a < i -> cur[a]? = some (.slice (some ⟨Rf a, 0, none⟩) 48 48)) /\ (∀ a, a < i -> W.heap[Rf a]? = some (.cells (List.replicate 48 (Value.bool false)).toArray 4) /\ B0 <= Rf a) /\ ∀ a b, a < i -> b < i -> Rf a = Rf b -> a = b
def MetAt (B0 Kb n : Nat) (Rf : Nat -> Nat) (met : MetF) (W : World) : Prop :=
  (∃ cur, W.heap[Kb]? = some (.cells cur 137) /\ cur.size = n + 1 /\ ∀ a, a <= n -> cur[a]? = some (.slice (some ⟨Rf a, 0, none⟩) 48 48)) /\ (∀ a, a <= n -> B0 <= Rf a /\ ∃ rc, W.heap[Rf a]? = some (.cells rc 4) /\ rc.size = 48 /\ ∀ c, c < 48 -> rc[c]? = some (.bool (met a c))) /\ ∀ a b, a <= n -> b <= n -> Rf a = Rf b -> a = b
theorem MetMk.below {B0 Kb n i : Nat} {Rf : Nat -> Nat} {W W' : World} (h : MetMk B0 Kb n i Rf W) (hb : Below W.heap.size W W') : MetMk B0 Kb n i Rf W' := by
  obtain ⟨⟨cur, h1, h2, h3⟩, h4, h5⟩ := h
  exact ⟨⟨cur, zq0 hb h1, h2, h3⟩, fun a ha => ⟨zq0 hb (h4 a ha).1, (h4 a ha).2⟩, h5⟩
theorem MetAt.below {B0 Kb n : Nat} {Rf : Nat -> Nat} {met : MetF} {W W' : World} (h : MetAt B0 Kb n Rf met W) (hb : Below W.heap.size W W') : MetAt B0 Kb n Rf met W' := by
  obtain ⟨⟨cur, h1, h2, h3⟩, h4, h5⟩ := h
  refine ⟨⟨cur, zq0 hb h1, h2, h3⟩, fun a ha => ?_, h5⟩
  obtain ⟨h6, rc, h7, h8⟩ := h4 a ha
  exact ⟨h6, rc, zq0 hb h7, h8⟩
theorem MetMk.push {B0 Kb n i R : Nat} {Rf : Nat -> Nat} {W : World} (h : MetMk B0 Kb n i Rf W) (hi : i <= n) (hR : R = W.heap.size) (hB : B0 <= R) : ∃ Rf', MetMk B0 Kb n (i + 1) Rf' ((W.setCell ⟨Kb, i, none⟩ (.slice (some ⟨R, 0, none⟩) 48 48)).alloc (.cells (List.replicate 48 (Value.bool false)).toArray 4)) := by
  obtain ⟨⟨cur, h1, h2, h3⟩, h4, h5⟩ := h
  have hsz : (W.setCell ⟨Kb, i, none⟩ (.slice (some ⟨R, 0, none⟩) 48 48)).heap.size = W.heap.size := by simp [World.setCell]
  have hba := (Below.refl (W.setCell ⟨Kb, i, none⟩ (.slice (some ⟨R, 0, none⟩) 48 48)).heap.size (W.setCell ⟨Kb, i, none⟩ (.slice (some ⟨R, 0, none⟩) 48 48))).alloc (Nat.le_refl _) (.cells (List.replicate 48 (Value.bool false)).toArray 4)
  have hnew := heap_alloc_new (W.setCell ⟨Kb, i, none⟩ (.slice (some ⟨R, 0, none⟩) 48 48)) (.cells (List.replicate 48 (Value.bool false)).toArray 4)
  rw [hsz, <- hR] at hnew
  have hlt : ∀ a, a < i -> Rf a < W.heap.size := fun a ha => lt_of_block (h4 a ha).1
  refine ⟨fun a => if a = i then R else Rf a, ⟨_, zq0 hba (zq12 h1 i _), by simp [h2], fun a ha => ?_⟩, fun a ha => ?_, fun a b ha hb e => ?_⟩
  · show _ = some (Value.slice (some ⟨if a = i then R else Rf a, 0, none⟩) 48 48)
    by_cases e : a = i
    · subst e
      rw [if_pos rfl]
      simp [h2, show a < n + 1 by omega]
    · rw [if_neg e, Array.getElem?_setIfInBounds_ne (Ne.symm e)]
      exact h3 a (by omega)
  · by_cases e : a = i
    · subst e
      simp only [if_true]
      exact ⟨hnew, hB⟩
    · simp only [if_neg e]
      refine ⟨?_, (h4 a (by omega)).2⟩
      have hne : Rf a ≠ Kb := fun e' => by
        have h6 := (h4 a (by omega)).1
        rw [e', h1] at h6
        injection h6 with h6
        injection h6 with _ h7 _
        exact absurd h7 (by decide)
      exact zq0 hba ((Below.heap_setCell W ⟨Kb, i, none⟩ _ (Rf a) hne).trans (h4 a (by omega)).1)
  · simp only at e
    split at e <;> split at e
    · omega
    · have := hlt b (by omega)
      omega
    · have := hlt a (by omega)
      omega
    · exact h5 a b (by omega) (by omega) e
theorem MetMk.all {B0 Kb n : Nat} {Rf : Nat -> Nat} {W : World} (h : MetMk B0 Kb n (n + 1) Rf W) : MetAt B0 Kb n Rf (fun _ _ => false) W := by
  obtain ⟨⟨cur, h1, h2, h3⟩, h4, h5⟩ := h
  refine ⟨⟨cur, h1, h2, fun a ha => h3 a (by omega)⟩, fun a ha => ⟨(h4 a (by omega)).2, _, (h4 a (by omega)).1, by simp, fun c hc => ?_⟩, fun a b ha hb => h5 a b (by omega) (by omega)⟩
  rw [List.getElem?_toArray, List.getElem?_replicate, if_pos hc]
theorem MetAt.set {B0 Kb n a c : Nat} {Rf : Nat -> Nat} {met : MetF} {W : World} (h : MetAt B0 Kb n Rf met W) (ha : a <= n) (hc : c < 48) : MetAt B0 Kb n Rf (updM met a c) (W.setCell ⟨Rf a, c, none⟩ (.bool true)) := by
  obtain ⟨⟨cur, h1, h2, h3⟩, h4, h5⟩ := h
  obtain ⟨h6, rc, h7, h8, h9⟩ := h4 a ha
  have hK : Kb ≠ Rf a := fun e' => by
    rw [<- e', h1] at h7
    injection h7 with h7
    injection h7 with _ h7 _
    exact absurd h7 (by decide)
  refine ⟨⟨cur, (Below.heap_setCell W ⟨Rf a, c, none⟩ _ Kb hK).trans h1, h2, h3⟩, fun b hb => ?_, h5⟩
  by_cases e : b = a
  · subst e
    refine ⟨h6, _, zq12 h7 c _, by simp [h8], fun c' hc' => ?_⟩
    unfold updM
    by_cases e2 : c' = c
    · subst e2
      simp [h8, hc']
    · rw [Array.getElem?_setIfInBounds_ne (Ne.symm e2), if_neg (fun x => e2 x.2)]
      exact h9 c' hc'
  · obtain ⟨g6, rc', g7, g8, g9⟩ := h4 b hb
    refine ⟨g6, rc', (Below.heap_setCell W ⟨Rf a, c, none⟩ _ (Rf b) (fun e' => e (h5 b a hb ha e'))).trans g7, g8, fun c' hc' => ?_⟩
    rw [updM_row e]
    exact g9 c' hc'
end Go.Proofs.YtcfjepcflanjbaaGreat
/- The reference: common, code, place. -/
namespace Go.Proofs.YtcfjepcflanjbaaGreat
open Go.RowKit Go.Lab Go.Shelf
set_option maxRecDepth 100000
theorem frame40 (t : Array Value) (ds : List Deferred) (h : t.size = 40) : ({ tmps := t, defers := ds } : Act) = { tmps := #[slot t 0, slot t 1, slot t 2, slot t 3, slot t 4, slot t 5, slot t 6, slot t 7, slot t 8, slot t 9, slot t 10, slot t 11, slot t 12, slot t 13, slot t 14, slot t 15, slot t 16, slot t 17, slot t 18, slot t 19, slot t 20, slot t 21, slot t 22, slot t 23, slot t 24, slot t 25, slot t 26, slot t 27, slot t 28, slot t 29, slot t 30, slot t 31, slot t 32, slot t 33, slot t 34, slot t 35, slot t 36, slot t 37, slot t 38, slot t 39], defers := ds } :=
  (congrArg (fun x => ({ tmps := x, defers := ds } : Act)) (zq1e h)).trans (by kernel_rfl)
def CoM (W0 : World) (v0 v1 v2 v7 : Value) (tb : Bool) : Act -> World -> Prop := fun a W => a.tmps.size = 40 /\ a.defers = [] /\ slot a.tmps 0 = v0 /\ slot a.tmps 1 = v1 /\ slot a.tmps 2 = v2 /\ slot a.tmps 7 = v7 /\ slot a.tmps 36 = .bool tb /\ Below W0.heap.size W0 W
set_option maxHeartbeats 4000000 in
theorem common_any (cv u : Value) (C mc : List Int) (W : World) (hC : BysAt W cv C) (hCl : C.length <= 100000) (k : Nat) (hk : k <= C.length) (hu : BysAt W u mc) (hml : mc.length <= 100000) :
    Calls Tryz.prog 83 #[cv, .int .i64 (k : Nat), u] W fun e W' => e = .returned (.int .i64 ((comm (C.drop k) mc : Nat) : Int)) /\ Below W.heap.size W W' := by
  obtain ⟨ua, uc, rfl, huc, hum⟩ := hu.1.form
  obtain ⟨ca, cc, rfl, hcc, hcm⟩ := hC.1.form
  unfold maxLen at hum hcm
  obtain ⟨n, hn⟩ : ∃ n, n = C.length := ⟨_, rfl⟩
  obtain ⟨c, hc⟩ : ∃ c, c = mc.length := ⟨_, rfl⟩
  have HN := hidep (And.intro hn hc)
  obtain ⟨r, hr⟩ : ∃ r, r = comm (C.drop k) mc := ⟨_, rfl⟩
  have hrle := zqc7 (C.drop k) mc
  rw [<- hr, List.length_drop, <- hn, <- hc] at hrle
  have HCM := hidep (fun j (hj : j <= r) ha hb => zqc1 (C.drop k) mc j (by rw [<- hr]; exact hj) ha hb)
  have HU := hidep hu
  have HC := hidep hC
  rw [<- hn] at hCl hk hcc ⊢
  rw [<- hc] at huc hml ⊢
  rw [<- hr] at HCM ⊢
  clear hu hC hn hc hr
  go_enter Tryz.func83, Tryz.ntmps83
  go_upto_region 2 with (fail)
  refine wp_loop (LoopI 40 (fun tm ds wr => (slot tm 0) = .slice ca n cc /\ (slot tm 1) = .int .i64 (k : Nat) /\ (slot tm 2) = .slice ua c uc /\ ds = [] /\ ∃ j : Nat, j <= r /\ (slot tm 7) = .int .i64 (j : Nat) /\ Below W.heap.size W wr)) (fun a' wr => r - natI (a'.tmps.getD 7 undef)) ?glStart ?glRound
  case' glStart => refine LoopI.mk rfl ?_
  case' glRound => (rintro ⟨t, ds⟩ wr ⟨hts, hrel⟩; dsimp only at hts hrel; rw [frame40 t ds hts])
  case glStart => exact ⟨rfl, rfl, rfl, rfl, 0, Nat.zero_le _, rfl, Below.refl _ _⟩
  obtain ⟨e0, e1, e2, hds, j, hj, e7, hb⟩ := hrel
  subst hds
  rw [e0, e1, e2, e7]
  clear e0 e1 e2 e7 hts
  have HB := hidep hb
  have hw1 : IntKind.i64.wrap ((k : Int) + (j : Int)) = (k : Int) + (j : Int) := IntWalk.i64_in _ (by omega)
  have hw2 : IntKind.i64.wrap ((j : Int) + 1) = (j : Int) + 1 := IntWalk.i64_in _ (by omega)
  have hw3 : IntKind.i64.wrap ((n : Int) - 1) = (n : Int) - 1 := IntWalk.i64_in _ (by omega)
  clear hb
  go_upto_region 2 with (fail)
  refine zq17 (CoM W (.slice ca n cc) (.int .i64 (k : Nat)) (.slice ua c uc) (.int .i64 (j : Nat)) (decide (j < r))) ?r2 ?_
  case r2 =>
    intro K' hMK
    by_cases hjc : j < c
    · have hjc1 : (j : Int) < (c : Int) := by omega
      by_cases hjn : k + j < n
      · have hjn1 : (k : Int) + (j : Int) < (n : Int) := by omega
        have hmin : ¬ (n : Int) - 1 < (k : Int) + (j : Int) := by omega
        have hwn : ((k : Int) + (j : Int)).toNat = k + j := by omega
        have hj0 : (0 : Int) <= (k : Int) + (j : Int) := by omega
        have hj00 : (0 : Int) <= (j : Int) := by omega
        obtain ⟨cb, co, x, hx, rfl, hcb, hcx, _, _⟩ := HC.out.get (show k + j < C.length from by rw [<- HN.out.1]; exact hjn)
        obtain ⟨ub, uo, y, hy, rfl, hub, hcy, _, _⟩ := HU.out.get (show j < mc.length from by rw [<- HN.out.2]; exact hjc)
        have heq : (x = y) ↔ j < r := by
          have h := HCM.out j hj (by rw [List.length_drop, <- HN.out.1]; omega) (by rw [<- HN.out.2]; exact hjc)
          rw [List.getElem_drop, hx, hy] at h
          omega
        have HXY := hidep (fun (Z : World) (hZ : Below wr.heap.size wr Z) => by
          have h0 := HB.out.trans (hZ.mono HB.out.size)
          exact And.intro ((h0.cell (p := ⟨ub, uo + j, none⟩) hub).trans hcy) ((h0.cell (p := ⟨cb, co + (k + j), none⟩) hcb).trans hcx))
        clear hx hy hcb hcx hub hcy
        obtain ⟨eb, heb⟩ : ∃ e, e = (x == y) := ⟨_, rfl⟩
        have he : (x == y) = eb := heb.symm
        have hd : decide (j < r) = eb := by
          rw [heb]
          by_cases hxy : x = y
          · rw [decide_eq_true (heq.1 hxy)]; simp [hxy]
          · rw [decide_eq_false (fun h => hxy (heq.2 h))]; simp [hxy]
        rw [hd] at hMK
        clear heq heb hd
        refine wp_region_noPanic (wp_region_held_drew (S := (fun Z => Below wr.heap.size wr Z)) (by kernel_rfl) ?hSz0 (fun hHeld => ?hRz0))
        case hSz0 => ((try dsimp only); (exact (Below.refl _ _).drew))
        refine tkC 0 rfl ?_
        refine tkC 1 rfl ?_
        refine tkC 2 rfl ?_
        refine tkC 3 rfl ?_
        refine tkC 4 rfl ?_
        refine tkC 5 rfl ?_
        refine tkC 6 rfl ?_
        refine tkC 7 rfl ?_
        refine tkC 8 rfl ?_
        refine tkC 9 rfl ?_
        refine tkC 10 rfl ?_
        refine tkC 11 rfl ?_
        refine tkC 12 rfl ?_
        refine tkC 13 rfl ?_
        refine tkC 14 rfl ?_
        refine tkC 15 rfl ?_
        refine tkC 16 rfl ?_
        refine tkC 17 rfl ?_
        refine tkC 18 rfl ?_
        refine tkC 19 rfl ?_
        refine tkC 23 rfl ?_
        refine tkC 24 rfl ?_
        refine tkC 25 rfl ?_
        refine tkB 26 rfl (.inl ⟨by kernel_rfl, fun w hSw => by (obtain ⟨hy, hx⟩ := HXY.out _ hSw); go_simp; first | done | with_reducible rfl⟩) ?_
        refine wpAnyH_ready (rs := [20]) (by kernel_rfl) (by simp) (AllReadyH.cons rfl (fun K hK => ?hcz1) AllReadyH.nil)
        go_simp
        refine hK.out _ _ (by (try dsimp only); (exact hHeld)) ?_
        clear hHeld hK; intro hHeld
        refine tkC 21 rfl ?_
        refine tkB 22 rfl (.inl ⟨by kernel_rfl, fun w hSw => by (obtain ⟨hy, hx⟩ := HXY.out _ hSw); go_simp; first | done | with_reducible rfl⟩) ?_
        refine tkC 27 rfl ?_
        refine tkC 28 rfl ?_
        refine wpAnyH_done (by kernel_rfl) ?_ _
        clear hHeld
        refine NoPanic.normal ?_
        dsimp only [Exit.then]
        (refine hMK _ _ ⟨?_, ?_, ?_, ?_, ?_, ?_, ?_, HB.out.trans ((Below.refl _ _).drew.mono HB.out.size)⟩ <;> kernel_rfl)
      · have hjn1 : ¬ (k : Int) + (j : Int) < (n : Int) := by omega
        have hd : decide (j < r) = false := decide_eq_false (by omega)
        rw [hd] at hMK
        clear hd
        refine wp_region_noPanic (wp_region_held_drew (S := (fun Z => Below wr.heap.size wr Z)) (by kernel_rfl) ?hSz2 (fun hHeld => ?hRz2))
        case hSz2 => ((try dsimp only); (exact (Below.refl _ _).drew))
        refine tkC 0 rfl ?_
        refine tkC 1 rfl ?_
        refine tkC 2 rfl ?_
        refine tkC 3 rfl ?_
        refine tkC 4 rfl ?_
        refine tkC 5 rfl ?_
        refine tkC 6 rfl ?_
        refine tkC 7 rfl ?_
        refine tkC 8 rfl ?_
        refine tkC 9 rfl ?_
        refine tkC 10 rfl ?_
        refine tkC 11 rfl ?_
        refine tkC 12 rfl ?_
        refine tkB 13 rfl (.inr ⟨by kernel_rfl, rfl⟩) ?_
        refine tkB 14 rfl (.inr ⟨by kernel_rfl, rfl⟩) ?_
        refine tkB 15 rfl (.inr ⟨by kernel_rfl, rfl⟩) ?_
        refine tkB 16 rfl (.inr ⟨by kernel_rfl, rfl⟩) ?_
        refine tkB 17 rfl (.inr ⟨by kernel_rfl, rfl⟩) ?_
        refine tkB 18 rfl (.inr ⟨by kernel_rfl, rfl⟩) ?_
        refine tkB 19 rfl (.inr ⟨by kernel_rfl, rfl⟩) ?_
        refine tkB 23 rfl (.inr ⟨by kernel_rfl, rfl⟩) ?_
        refine tkB 24 rfl (.inr ⟨by kernel_rfl, rfl⟩) ?_
        refine tkB 25 rfl (.inr ⟨by kernel_rfl, rfl⟩) ?_
        refine tkB 26 rfl (.inr ⟨by kernel_rfl, rfl⟩) ?_
        refine wpAnyH_ready (rs := [20]) (by kernel_rfl) (by simp) (AllReadyH.cons rfl (fun K hK => ?hcz3) AllReadyH.nil)
        first | rw [if_neg (ne_true_of_eq_false (by kernel_rfl))] | rw [if_neg (by decide)]
        refine hK.out _ _ (by (try dsimp only); (exact hHeld)) ?_
        clear hHeld hK; intro hHeld
        refine tkB 21 rfl (.inr ⟨by kernel_rfl, rfl⟩) ?_
        refine tkB 22 rfl (.inr ⟨by kernel_rfl, rfl⟩) ?_
        refine tkB 27 rfl (.inr ⟨by kernel_rfl, rfl⟩) ?_
        refine tkC 28 rfl ?_
        refine wpAnyH_done (by kernel_rfl) ?_ _
        clear hHeld
        refine NoPanic.normal ?_
        dsimp only [Exit.then]
        (refine hMK _ _ ⟨?_, ?_, ?_, ?_, ?_, ?_, ?_, HB.out.trans ((Below.refl _ _).drew.mono HB.out.size)⟩ <;> kernel_rfl)
    · have hjc1 : ¬ (j : Int) < (c : Int) := by omega
      have hd : decide (j < r) = false := decide_eq_false (by omega)
      rw [hd] at hMK
      clear hd
      refine wp_region_noPanic (wp_region_held_drew (S := (fun Z => Below wr.heap.size wr Z)) (by kernel_rfl) ?hSz4 (fun hHeld => ?hRz4))
      case hSz4 => ((try dsimp only); (exact (Below.refl _ _).drew))
      refine tkC 0 rfl ?_
      refine tkC 1 rfl ?_
      refine tkC 2 rfl ?_
      refine tkC 3 rfl ?_
      refine tkC 4 rfl ?_
      refine tkB 5 rfl (.inr ⟨by kernel_rfl, rfl⟩) ?_
      refine tkB 6 rfl (.inr ⟨by kernel_rfl, rfl⟩) ?_
      refine tkB 7 rfl (.inr ⟨by kernel_rfl, rfl⟩) ?_
      refine tkB 8 rfl (.inr ⟨by kernel_rfl, rfl⟩) ?_
      refine tkB 9 rfl (.inr ⟨by kernel_rfl, rfl⟩) ?_
      refine tkB 10 rfl (.inr ⟨by kernel_rfl, rfl⟩) ?_
      refine tkC 11 rfl ?_
      refine tkC 12 rfl ?_
      refine tkB 13 rfl (.inr ⟨by kernel_rfl, rfl⟩) ?_
      refine tkB 14 rfl (.inr ⟨by kernel_rfl, rfl⟩) ?_
      refine tkB 15 rfl (.inr ⟨by kernel_rfl, rfl⟩) ?_
      refine tkB 16 rfl (.inr ⟨by kernel_rfl, rfl⟩) ?_
      refine tkB 17 rfl (.inr ⟨by kernel_rfl, rfl⟩) ?_
      refine tkB 18 rfl (.inr ⟨by kernel_rfl, rfl⟩) ?_
      refine tkB 19 rfl (.inr ⟨by kernel_rfl, rfl⟩) ?_
      refine tkB 23 rfl (.inr ⟨by kernel_rfl, rfl⟩) ?_
      refine tkB 24 rfl (.inr ⟨by kernel_rfl, rfl⟩) ?_
      refine tkB 25 rfl (.inr ⟨by kernel_rfl, rfl⟩) ?_
      refine tkB 26 rfl (.inr ⟨by kernel_rfl, rfl⟩) ?_
      refine wpAnyH_ready (rs := [20]) (by kernel_rfl) (by simp) (AllReadyH.cons rfl (fun K hK => ?hcz5) AllReadyH.nil)
      first | rw [if_neg (ne_true_of_eq_false (by kernel_rfl))] | rw [if_neg (by decide)]
      refine hK.out _ _ (by (try dsimp only); (exact hHeld)) ?_
      clear hHeld hK; intro hHeld
      refine tkB 21 rfl (.inr ⟨by kernel_rfl, rfl⟩) ?_
      refine tkB 22 rfl (.inr ⟨by kernel_rfl, rfl⟩) ?_
      refine tkB 27 rfl (.inr ⟨by kernel_rfl, rfl⟩) ?_
      refine tkC 28 rfl ?_
      refine wpAnyH_done (by kernel_rfl) ?_ _
      clear hHeld
      refine NoPanic.normal ?_
      dsimp only [Exit.then]
      (refine hMK _ _ ⟨?_, ?_, ?_, ?_, ?_, ?_, ?_, HB.out.trans ((Below.refl _ _).drew.mono HB.out.size)⟩ <;> kernel_rfl)
  rintro ⟨tm1, ds⟩ X1 ⟨hts, hds, e0, e1, e2, e7, e36, hb1⟩
  simp only at hts hds e0 e1 e2 e7 e36
  subst hds
  apply_assumption
  rw [frame40 tm1 [] hts, e0, e1, e2, e7, e36]
  clear hts e0 e1 e2 e7 e36
  have HB1 := hidep hb1
  clear hb1 HB
  by_cases hjr : j < r
  · rw [decide_eq_true hjr]
    go_wp2
    refine ⟨LoopI.mk rfl ⟨rfl, rfl, rfl, rfl, j + 1, by omega, by show Value.int _ _ = _; go_num, HB1.out⟩, ?_⟩
    show r - _ < r - _
    simp [natI]; omega
  · rw [decide_eq_false hjr]
    have hjr2 : j = r := by omega
    subst hjr2
    clear hjr
    go_wp2
    go_ret
    exact ⟨rfl, HB1.out⟩
end Go.Proofs.YtcfjepcflanjbaaGreat
