/- Plain facts on a ring of pairs, its cells, its sums; conditions: none but those written. -/
import Derived.Test.YtpdhjjmhdoghjaaMem
namespace Go.Proofs.Ytpdhjjmhdoghjaa
open Go.RowKit

def pairCells (L : List (Int × Int)) : List Value := L.flatMap fun p => [.int .i64 p.1, .int .i64 p.2]
def ringArr (L : List (Int × Int)) : Array Value := (pairCells L).toArray
def sumS (L : List (Int × Int)) : Int := (L.map (·.1)).sum
def sumG (L : List (Int × Int)) : Int := (L.map (·.2)).sum

theorem pairCells_nil : pairCells [] = [] := rfl
theorem pairCells_cons (p : Int × Int) (L : List (Int × Int)) : pairCells (p :: L) = .int .i64 p.1 :: .int .i64 p.2 :: pairCells L := rfl
theorem length_pairCells (L : List (Int × Int)) : (pairCells L).length = L.length * 2 := by
  induction L with
  | nil => rfl
  | cons p L ih => rw [pairCells_cons]; simp only [List.length_cons, ih]; omega

theorem pairCells_get (L : List (Int × Int)) : ∀ i (h : i < L.length), (pairCells L)[i * 2]? = some (.int .i64 L[i].1) ∧ (pairCells L)[i * 2 + 1]? = some (.int .i64 L[i].2) := by
  induction L with
  | nil => intro i h; exact absurd h (by simp)
  | cons p L ih =>
    intro i h
    cases i with
    | zero => exact ⟨rfl, rfl⟩
    | succ i =>
      have := ih i (by simpa using h)
      rw [pairCells_cons, show (i + 1) * 2 = i * 2 + 1 + 1 from by omega]
      simpa using this

theorem pairCells_set (L : List (Int × Int)) : ∀ i (s t : Int), i < L.length → ((pairCells L).set (i * 2) (.int .i64 s)).set (i * 2 + 1) (.int .i64 t) = pairCells (L.set i (s, t)) := by
  induction L with
  | nil => intro i s t h; exact absurd h (by simp)
  | cons p L ih =>
    intro i s t h
    cases i with
    | zero => rfl
    | succ i =>
      have := ih i s t (by simpa using h)
      rw [pairCells_cons, show (i + 1) * 2 = i * 2 + 1 + 1 from by omega]
      simp only [List.set_cons_succ, pairCells_cons, this]

theorem ringArr_set (L : List (Int × Int)) (i : Nat) (s t : Int) (h : i < L.length) : ((ringArr L).setIfInBounds (i * 2) (.int .i64 s)).setIfInBounds (i * 2 + 1) (.int .i64 t) = ringArr (L.set i (s, t)) := by
  unfold ringArr
  simp only [List.setIfInBounds_toArray]
  rw [pairCells_set L i s t h]

theorem ringArr_get (L : List (Int × Int)) (i : Nat) (h : i < L.length) : (ringArr L)[i * 2]? = some (.int .i64 L[i].1) ∧ (ringArr L)[i * 2 + 1]? = some (.int .i64 L[i].2) := by
  unfold ringArr
  simpa using pairCells_get L i h

theorem made_ring (n : Nat) : madeCells #[.int .i64 0, .int .i64 0] (n * 2) = ringArr (List.replicate n (0, 0)) := by
  unfold ringArr
  apply Array.ext
  · rw [size_madeCells]; simp [length_pairCells]
  · intro i h1 h2
    rw [size_madeCells] at h1
    have hL : i / 2 < (List.replicate n ((0 : Int), (0 : Int))).length := by simp; omega
    have hg := pairCells_get (List.replicate n ((0 : Int), (0 : Int))) (i / 2) hL
    have e : (madeCells #[Value.int .i64 0, Value.int .i64 0] (n * 2))[i]? = some (.int .i64 0) := by
      rcases Nat.mod_two_eq_zero_or_one i with h | h <;> simp [madeCells, h1, h]
    have e2 : (pairCells (List.replicate n ((0 : Int), (0 : Int))))[i]? = some (.int .i64 0) := by
      rcases Nat.mod_two_eq_zero_or_one i with h | h
      · have := hg.1
        rw [show i / 2 * 2 = i from by omega] at this
        rw [this]; simp
      · have := hg.2
        rw [show i / 2 * 2 + 1 = i from by omega] at this
        rw [this]; simp
    have e3 : (pairCells (List.replicate n ((0 : Int), (0 : Int)))).toArray[i]? = some (.int .i64 0) := by simpa using e2
    rw [Array.getElem?_eq_getElem (by rw [size_madeCells]; exact h1)] at e
    rw [Array.getElem?_eq_getElem h2] at e3
    exact Option.some.inj (e.trans e3.symm)

theorem sumS_nil : sumS [] = 0 := rfl
theorem sumG_nil : sumG [] = 0 := rfl
theorem sumS_cons (p : Int × Int) (L : List (Int × Int)) : sumS (p :: L) = p.1 + sumS L := by simp [sumS]
theorem sumG_cons (p : Int × Int) (L : List (Int × Int)) : sumG (p :: L) = p.2 + sumG L := by simp [sumG]
theorem sumS_append (L M : List (Int × Int)) : sumS (L ++ M) = sumS L + sumS M := by simp [sumS]
theorem sumG_append (L M : List (Int × Int)) : sumG (L ++ M) = sumG L + sumG M := by simp [sumG]
theorem sumS_replicate (n : Nat) : sumS (List.replicate n (0, 0)) = 0 := by
  induction n with
  | zero => rfl
  | succ n ih => rw [List.replicate_succ, sumS_cons, ih]; rfl
theorem sumG_replicate (n : Nat) : sumG (List.replicate n (0, 0)) = 0 := by
  induction n with
  | zero => rfl
  | succ n ih => rw [List.replicate_succ, sumG_cons, ih]; rfl

/-- A tick that may be: both from 0 to 2^31 - 1. -/
def Fine (p : Int × Int) : Prop := 0 ≤ p.1 ∧ p.1 ≤ 2147483647 ∧ 0 ≤ p.2 ∧ p.2 ≤ 2147483647

theorem sums_bound (L : List (Int × Int)) (h : ∀ p ∈ L, Fine p) : 0 ≤ sumS L ∧ 0 ≤ sumG L ∧ sumG L ≤ 2147483647 * L.length ∧ sumS L ≤ 2147483647 * L.length := by
  induction L with
  | nil => simp [sumS, sumG]
  | cons p L ih =>
    have h1 := ih fun q hq => h q (by simp [hq])
    have h2 := h p (by simp)
    unfold Fine at h2
    rw [sumS_cons, sumG_cons]
    simp only [List.length_cons]
    omega

/-- One more report: the first goes. -/
def push (L : List (Int × Int)) (p : Int × Int) : List (Int × Int) := L.tail ++ [p]

theorem length_push (L : List (Int × Int)) (p : Int × Int) (h : 0 < L.length) : (push L p).length = L.length := by
  unfold push; simp; omega

theorem fine_push {L : List (Int × Int)} {p : Int × Int} (h : ∀ q ∈ L, Fine q) (hp : Fine p) : ∀ q ∈ push L p, Fine q := by
  intro q hq
  unfold push at hq
  rcases List.mem_append.1 hq with h1 | h1
  · exact h q (List.mem_of_mem_tail h1)
  · rw [List.mem_singleton] at h1; exact h1 ▸ hp

/-- The ring's reports in their row: the eldest first. -/
def rot (R : List (Int × Int)) (i : Nat) : List (Int × Int) := R.drop i ++ R.take i

theorem length_rot (R : List (Int × Int)) (i : Nat) : (rot R i).length = R.length := by
  unfold rot; simp; omega

theorem sum_rot (R : List (Int × Int)) (i : Nat) : sumS (rot R i) = sumS R ∧ sumG (rot R i) = sumG R := by
  have h := List.take_append_drop i R
  constructor
  · conv => rhs; rw [← h]
    unfold rot; rw [sumS_append, sumS_append]; omega
  · conv => rhs; rw [← h]
    unfold rot; rw [sumG_append, sumG_append]; omega

theorem mem_rot {R : List (Int × Int)} {i : Nat} {p : Int × Int} (h : p ∈ R) : p ∈ rot R i := by
  rw [← List.take_append_drop i R] at h
  unfold rot
  rcases List.mem_append.1 h with h | h <;> simp [h]

theorem rot_set (R : List (Int × Int)) (i : Nat) (p : Int × Int) (h : i < R.length) : rot (R.set i p) ((i + 1) % R.length) = push (rot R i) p := by
  have e1 : R.drop i = R[i] :: R.drop (i + 1) := List.drop_eq_getElem_cons h
  have e2 : push (rot R i) p = R.drop (i + 1) ++ R.take i ++ [p] := by
    unfold push rot; rw [e1]; simp only [List.cons_append, List.tail_cons]
  rw [e2]
  by_cases hl : i + 1 = R.length
  · have : (i + 1) % R.length = 0 := by rw [hl]; exact Nat.mod_self _
    rw [this]
    unfold rot
    have e3 : R.drop (i + 1) = [] := List.drop_eq_nil_of_le (by omega)
    rw [e3]
    simp only [List.drop_zero, List.take_zero, List.append_nil, List.nil_append]
    rw [List.set_eq_take_append_cons_drop, if_pos h, e3]
  · have : (i + 1) % R.length = i + 1 := Nat.mod_eq_of_lt (by omega)
    rw [this]
    unfold rot
    rw [List.drop_set_of_lt (by omega), List.set_eq_take_append_cons_drop, if_pos h]
    rw [List.append_assoc]
    congr 1
    rw [List.take_append, List.take_take]
    have : (R.take i).length = i := by simp; omega
    rw [this, show i + 1 - i = 1 from by omega, show min (i + 1) i = i from by omega]
    simp

theorem sum_set (R : List (Int × Int)) : ∀ (i : Nat) (p : Int × Int) (h : i < R.length), sumS (R.set i p) = sumS R + (p.1 - R[i].1) ∧ sumG (R.set i p) = sumG R + (p.2 - R[i].2) := by
  induction R with
  | nil => intro i p h; exact absurd h (by simp)
  | cons q R ih =>
    intro i p h
    cases i with
    | zero => simp only [List.set_cons_zero, sumS_cons, sumG_cons, List.getElem_cons_zero]; omega
    | succ i =>
      have := ih i p (by simpa using h)
      simp only [List.set_cons_succ, sumS_cons, sumG_cons, List.getElem_cons_succ]
      omega

end Go.Proofs.Ytpdhjjmhdoghjaa
