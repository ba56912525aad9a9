/- Reader: lists of places in memory; the reference's Has and the code's task. -/
import Derived.Test.YtfljgcpfmhhgcaaRdU
namespace Go.Proofs.Ytfljgcpfmhhgcaa
open Go.RowKit Go.Lab
def placesC (l : List Pl) : List Value := l.flatMap plC
theorem placesC_append (a b : List Pl) : placesC (a ++ b) = placesC a ++ placesC b := by simp [placesC]
theorem placesC_len (l : List Pl) : (placesC l).length = l.length * 6 := by
  induction l with
  | nil => rfl
  | cons a l ih => simp [placesC, plC] at *; omega
theorem placesC_one (l : List Pl) : ∀ u ∈ placesC l, u.oneCell' = true := by
  intro u hu
  obtain ⟨x, _, hx⟩ := List.mem_flatMap.1 hu
  simp [plC] at hx
  rcases hx with rfl | rfl | rfl | rfl | rfl | rfl <;> rfl
theorem placesC_get (l : List Pl) (i : Nat) (h : i < l.length) : (placesC l)[i * 6]? = some (.int .i64 l[i].item) ∧ (placesC l)[i * 6 + 1]? = some (.int .i64 l[i].fact) ∧ (placesC l)[i * 6 + 2]? = some (.int .i64 l[i].start) ∧
    (placesC l)[i * 6 + 3]? = some (.int .i64 l[i].len) ∧ (placesC l)[i * 6 + 4]? = some (.int .i64 l[i].page) ∧ (placesC l)[i * 6 + 5]? = some (.int .i64 l[i].line) := by
  induction l generalizing i with
  | nil => simp at h
  | cons a l ih =>
    cases i with
    | zero => simp [placesC, plC]
    | succ i =>
      have := ih i (by simpa using h)
      have e : (i + 1) * 6 = i * 6 + 1 + 1 + 1 + 1 + 1 + 1 := by omega
      simpa [placesC, plC, e] using this
/-- A list of places, in a block of whatever type. -/
def PlacesAt (w : World) (v : Value) (l : List Pl) : Prop := Rd w (fun _ => True) 6 v l.length (placesC l)
theorem PlacesAt.below {w w' : World} {v : Value} {l : List Pl} (h : PlacesAt w v l) (hb : Below w.heap.size w w') : PlacesAt w' v l := Rd.below h hb
theorem PlacesAt.form {w : World} {v : Value} {l : List Pl} (h : PlacesAt w v l) : ∃ a cap, v = .slice a l.length cap ∧ l.length ≤ cap ∧ cap ≤ maxLen := Rd.form h
theorem PlacesAt.at {w : World} {a : Option Addr} {c : Nat} {l : List Pl} (h : PlacesAt w (.slice a l.length c) l) {k : Nat} (hk : k < l.length) :
    ∃ b off, a = some ⟨b, off, none⟩ ∧ b < w.heap.size ∧ w.cell? ⟨b, off + k * 6, none⟩ = some (.int .i64 l[k].item) ∧ w.cell? ⟨b, off + k * 6 + 1, none⟩ = some (.int .i64 l[k].fact) ∧ w.cell? ⟨b, off + k * 6 + 2, none⟩ = some (.int .i64 l[k].start) ∧
      w.cell? ⟨b, off + k * 6 + 3, none⟩ = some (.int .i64 l[k].len) ∧ w.cell? ⟨b, off + k * 6 + 4, none⟩ = some (.int .i64 l[k].page) ∧ w.cell? ⟨b, off + k * 6 + 5, none⟩ = some (.int .i64 l[k].line) := by
  obtain ⟨b, off, e, hb, hc⟩ := Rd.at h (by omega)
  obtain ⟨g0, g1, g2, g3, g4, g5⟩ := placesC_get l k hk
  exact ⟨b, off, e, hb, hc _ _ g0, hc (k * 6 + 1) _ g1, hc (k * 6 + 2) _ g2, hc (k * 6 + 3) _ g3, hc (k * 6 + 4) _ g4, hc (k * 6 + 5) _ g5⟩
theorem ints_get {w : World} {a : Option Addr} {c : Nat} {l : List Int} (h : IntsAt w (.slice a l.length c) l) {k : Nat} (hk : k < l.length) : ∃ b off, a = some ⟨b, off, none⟩ ∧ b < w.heap.size ∧ w.cell? ⟨b, off + k, none⟩ = some (.int .i64 l[k]) := by
  obtain ⟨b, off, e, hb, hc⟩ := Rd.at h.1 (by omega)
  exact ⟨b, off, e, hb, hc k _ (intsC_get l k hk)⟩
def hasZ (l : List Int) (n : Int) : Bool := l.any fun x => decide (x = n)
theorem hasZ_step {l : List Int} {n : Int} {k : Nat} (h : k < l.length) : hasZ (l.drop k) n = (decide (l[k] = n) || hasZ (l.drop (k + 1)) n) := by
  unfold hasZ
  rw [List.drop_eq_getElem_cons h, List.any_cons]
set_option maxHeartbeats 400000 in
theorem has30_any (v : Value) (l : List Int) (n : Int) (w : World) (h : IntsAt w v l) : Calls Try.prog 51 #[v, .int .i64 n] w fun e w' => e = .returned (.bool (hasZ l n)) ∧ w = w' := by
  obtain ⟨a, c, rfl, hc, hm⟩ := h.1.form
  unfold maxLen at hm
  go_enter Try.func51, Try.ntmps51
  go_wp2
  go_loop [5] (fun i => ∃ k : Nat, k ≤ l.length ∧ i = .int .i64 k ∧ Hid (hasZ l n = hasZ (l.drop k) n)) (fun i => l.length - (intOf i).toNat)
  case atStart => exact ⟨0, Nat.zero_le _, rfl, hidep rfl⟩
  case round =>
    obtain ⟨k, hk, rfl, hg⟩ := hrel
    by_cases hlt : k < l.length
    · obtain ⟨b, off, rfl, hb, hx⟩ := ints_get h hlt
      have HS := hidep (hg.out.trans (hasZ_step hlt))
      have hk0 : (0 : Int) ≤ (k : Int) := by omega
      have hk1 : (k : Int) < (l.length : Int) := by omega
      clear h hg
      generalize l[k] = x at *
      by_cases hxn : x = n
      · have HR := hidep (HS.out.trans (by rw [decide_eq_true hxn]; rfl : _ = true))
        clear HS
        subst hxn
        go_wp2
        go_ret
        exact ⟨ret_val (congrArg _ HR.out.symm), rfl⟩
      · have HR := hidep (HS.out.trans (by rw [decide_eq_false hxn]; rfl : _ = hasZ (l.drop (k + 1)) n))
        clear HS
        go_wp2
        go_round
        case rel => exact ⟨k + 1, by omega, by go_num, HR⟩
        case measure => simp [intOf]; omega
    · have hkl : k = l.length := by omega
      subst hkl
      have HR : Hid (hasZ l n = false) := hidep (by rw [hg.out, List.drop_length]; rfl)
      go_wp2
      go_ret
      exact ⟨ret_val (congrArg _ HR.out.symm), rfl⟩
/-- Increasing indices of a list of n elements, behind one. -/
def taskGo (n last : Int) : List Int → Bool
  | [] => true
  | i :: r => if i ≤ last ∨ n ≤ i then false else taskGo n i r
def taskZ (way n : Int) (need : List Int) : Int := if 8 < need.length then 4 else if taskGo n (-1) need = false then 1 else if way < 0 ∨ 3 < way then 1 else 0
theorem taskGo_step {n last : Int} {l : List Int} {k : Nat} (h : k < l.length) : taskGo n last (l.drop k) = if l[k] ≤ last ∨ n ≤ l[k] then false else taskGo n l[k] (l.drop (k + 1)) := by
  rw [List.drop_eq_getElem_cons h, taskGo]
set_option maxHeartbeats 1000000 in
theorem rtask_any (way : Int) (v u : Value) (pl : List Pl) (l : List Int) (w : World) (hp : PlacesAt w v pl) (h : IntsAt w u l) : Calls Try.prog 37 #[.int .i64 way, v, u] w fun e w' => e = .returned (.int .i64 (taskZ way pl.length l)) ∧ w = w' := by
  obtain ⟨a, c, rfl, hc, hm⟩ := h.1.form
  obtain ⟨b, d, rfl, hd, hm2⟩ := hp.form
  unfold maxLen at hm hm2
  by_cases h8 : 8 < l.length
  · have HZ : Hid (taskZ way pl.length l = 4) := hidep (if_pos h8)
    have h8' : (8 : Int) < (l.length : Int) := by omega
    go_enter Try.func37, Try.ntmps37
    go_wp2
    go_ret
    exact ⟨ret_val (congrArg _ HZ.out.symm), rfl⟩
  · have HZ : Hid (taskZ way pl.length l = if taskGo pl.length (-1) l = false then 1 else if way < 0 ∨ 3 < way then 1 else 0) := hidep (if_neg h8)
    have h8' : (l.length : Int) ≤ 8 := by omega
    clear h8
    go_enter Try.func37, Try.ntmps37
    go_wp2
    go_loop [7, 15] (fun la i => ∃ (k : Nat) (last : Int), k ≤ l.length ∧ i = .int .i64 k ∧ la = .int .i64 last ∧ Hid (taskGo pl.length (-1) l = taskGo pl.length last (l.drop k))) (fun _ i => l.length - (intOf i).toNat)
    case atStart => exact ⟨0, -1, Nat.zero_le _, rfl, rfl, hidep rfl⟩
    case round =>
      obtain ⟨k, last, hk, rfl, rfl, hg⟩ := hrel
      by_cases hlt : k < l.length
      · obtain ⟨bb, off, rfl, hb, hx⟩ := ints_get h hlt
        have HS := hidep (hg.out.trans (taskGo_step hlt))
        have hk0 : (0 : Int) ≤ (k : Int) := by omega
        have hk1 : (k : Int) < (l.length : Int) := by omega
        clear h hg
        generalize l[k] = x at *
        by_cases h1 : x ≤ last
        · have HR : Hid (taskZ way pl.length l = 1) := hidep (by rw [HZ.out, HS.out, if_pos (show x ≤ last ∨ (pl.length : Int) ≤ x from .inl h1), if_pos rfl])
          clear HS HZ
          go_wp2
          go_ret
          exact ⟨ret_val (congrArg _ HR.out.symm), rfl⟩
        · have h1' : last < x := by omega
          by_cases h2 : (pl.length : Int) ≤ x
          · have HR : Hid (taskZ way pl.length l = 1) := hidep (by rw [HZ.out, HS.out, if_pos (show x ≤ last ∨ (pl.length : Int) ≤ x from .inr h2), if_pos rfl])
            clear HS HZ
            go_wp2
            go_ret
            exact ⟨ret_val (congrArg _ HR.out.symm), rfl⟩
          · have HN := hidep (HS.out.trans (if_neg (by omega)))
            have h2' : x < (pl.length : Int) := by omega
            clear HS
            go_wp2
            go_round
            case rel => exact ⟨k + 1, x, by omega, by go_num, rfl, HN⟩
            case measure => simp [intOf]; omega
      · have hkl : k = l.length := by omega
        subst hkl
        have HT : Hid (taskGo pl.length (-1) l = true) := hidep (by rw [hg.out, List.drop_length]; rfl)
        have HW : Hid (taskZ way pl.length l = if way < 0 ∨ 3 < way then 1 else 0) := hidep (by rw [HZ.out, HT.out, if_neg (by decide)])
        clear HZ hg
        by_cases hw0 : way < 0
        · have HR := hidep (HW.out.trans (if_pos (.inl hw0)))
          go_wp2
          go_ret
          exact ⟨ret_val (congrArg _ HR.out.symm), rfl⟩
        · have hw0' : 0 ≤ way := by omega
          by_cases hw3 : 3 < way
          · have HR := hidep (HW.out.trans (if_pos (.inr hw3)))
            have hw4 : 4 ≤ way := by omega
            go_wp2
            go_ret
            exact ⟨ret_val (congrArg _ HR.out.symm), rfl⟩
          · have HR := hidep (HW.out.trans (if_neg (by omega)))
            have hw4 : way < 4 := by omega
            go_wp2
            go_ret
            exact ⟨ret_val (congrArg _ HR.out.symm), rfl⟩
end Go.Proofs.Ytfljgcpfmhhgcaa
