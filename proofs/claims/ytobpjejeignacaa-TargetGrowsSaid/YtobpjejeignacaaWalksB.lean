/- Walks over Count and the reference's Target, May of both. -/
import Derived.Test.YtobpjejeignacaaWalksA
namespace Go.Proofs.Ytobpjejeignacaa
open Go.RowKit

def ceilI (load rate : Int) : Int := load / rate + (if 0 < load % rate then 1 else 0)
def cnt (load rate least links : Int) : Int := min (max (ceilI load rate) least) links

theorem quo_bound (load rate : Int) (h1 : load ≤ 9223372036854775807) (h0 : 0 ≤ load) (h2 : 64 ≤ rate) : 0 ≤ load / rate ∧ load / rate ≤ 144115188075855872 := by
  have e1 : 0 ≤ load / rate := Int.ediv_nonneg h0 (by omega)
  have e2 : load / rate * rate ≤ load := Int.ediv_mul_le load (by omega)
  have e3 : load / rate * 64 ≤ load / rate * rate := Int.mul_le_mul_of_nonneg_left h2 e1
  omega

theorem ret_int {k : IntKind} {a b : Int} (h : a = b) : Ending.returned (.int k a) = .returned (.int k b) := by rw [h]

set_option maxHeartbeats 400000 in
theorem count_any (load rate least links : Int) (w : World) (h0 : 0 ≤ load) (h1 : load ≤ 9223372036854775807) (h2 : 64 ≤ rate) (h3 : rate ≤ 4096) (_h4 : 1 ≤ least) (h5 : least ≤ links) (_h6 : links ≤ 8) :
    Calls Try.prog 14 #[.int .i64 load, .int .i64 rate, .int .i64 least, .int .i64 links] w fun e w' => e = .returned (.int .i64 (cnt load rate least links)) ∧ w = w' := by
  obtain ⟨q0, q1⟩ := quo_bound load rate h1 h0 h2
  have m0 : 0 ≤ load % rate := Int.emod_nonneg _ (by omega)
  have m1 : load % rate < rate := Int.emod_lt_of_pos _ (by omega)
  have HC : Hid (cnt load rate least links = min (max (load / rate + (if 0 < load % rate then 1 else 0)) least) links) := Lib.hid rfl
  have tq : load.tdiv rate = load / rate := Int.tdiv_eq_ediv_of_nonneg h0
  have tm : load.tmod rate = load % rate := Int.tmod_eq_emod_of_nonneg h0
  generalize load / rate = q at *
  generalize load % rate = m at *
  clear h1
  have r0 : ((rate == 0) = false) := by rw [beq_eq_false_iff_ne]; omega
  go_enter Try.func14, Try.ntmps14
  by_cases hm : 0 < m
  all_goals
    go_wp2
    all_goals go_ret
    all_goals exact ⟨ret_int (by rw [HC.out]; (first | rw [if_pos hm] | rw [if_neg (by omega)]); omega), rfl⟩

set_option maxHeartbeats 400000 in
theorem target_any (load rate least links : Int) (w : World) (h0 : 0 ≤ load) (h1 : load ≤ 9223372036854775807) (h2 : 64 ≤ rate) (h3 : rate ≤ 4096) (_h4 : 1 ≤ least) (h5 : least ≤ links) (_h6 : links ≤ 8) :
    Calls Try.prog 15 #[.int .i64 load, .int .i64 rate, .int .i64 least, .int .i64 links] w fun e w' => e = .returned (.int .i64 (cnt load rate least links)) ∧ w = w' := by
  obtain ⟨q0, q1⟩ := quo_bound load rate h1 h0 h2
  have m0 : 0 ≤ load % rate := Int.emod_nonneg _ (by omega)
  have m1 : load % rate < rate := Int.emod_lt_of_pos _ (by omega)
  have HC : Hid (cnt load rate least links = min (max (load / rate + (if 0 < load % rate then 1 else 0)) least) links) := Lib.hid rfl
  have tq : load.tdiv rate = load / rate := Int.tdiv_eq_ediv_of_nonneg h0
  have tm : load.tmod rate = load % rate := Int.tmod_eq_emod_of_nonneg h0
  generalize load / rate = q at *
  generalize load % rate = m at *
  clear h1
  have r0 : ((rate == 0) = false) := by rw [beq_eq_false_iff_ne]; omega
  go_enter Try.func15, Try.ntmps15
  by_cases hm : 0 < m
  all_goals
    go_wp2
    all_goals go_ret
    all_goals exact ⟨ret_int (by rw [HC.out]; (first | rw [if_pos hm] | rw [if_neg (by omega)]); omega), rfl⟩

end Go.Proofs.Ytobpjejeignacaa
