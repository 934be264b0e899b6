/- The walks of RealExtremes: what each function that it reaches answers. No conditions. -/
import Derived.Test.YtlnffafiapchkaaChecked
import Derived.Test.YtlnffafiapchkaaPlain
import Derived.Tactics
import Derived.Tactics2
import Derived.WalkKit
import Derived.WalkSpells
import Derived.StillTactics
import Derived.Laws.Pointers
import Derived.Laws.Small
import Derived.Laws.StructEq
import Derived.Laws.Tables
import Derived.Laws.Cover2
import Derived.KernelRfl
import Derived.Outline
import Derived.RowKit
import Derived.Below
import Derived.OwnWalk
import Derived.Laws.BitsAllLaws
import Derived.Laws.Externs
namespace Go.Proofs.Ytlnffafiapchkaa
open Go.RowKit

theorem ret_int {k : IntKind} {a b : Int} (h : a = b) : Ending.returned (.int k a) = .returned (.int k b) := by rw [h]
theorem ret_bool {a b : Bool} (h : a = b) : Ending.returned (.bool a) = .returned (.bool b) := by rw [h]
theorem and63 (b : Int) (h0 : 0 ≤ b) (h : b < 18446744073709551616) : bits BinOp.and IntKind.u64 b 9223372036854775807 = b % 9223372036854775808 := by
  rw [u64_and b _ h0 (by omega) (by omega) (by omega)]
  have e : (9223372036854775807 : Int).toNat = 2 ^ 63 - 1 := by decide
  rw [e, Nat.and_two_pow_sub_one_eq_mod]
  omega
theorem key_any (b : Int) (w : World) (h0 : 0 ≤ b) (h : b < 18446744073709551616) :
    Calls Try.prog 6 #[.int .u64 b] w fun e w' => e = .returned (.int .i64 (keyOf b)) ∧ w = w' := by
  go_enter Try.func6, Try.ntmps6
  go_wp2
  · have h1 : (b / 9223372036854775808 == 1) = true := by assumption
    have h2 : b / 9223372036854775808 = 1 := by simpa using h1
    go_ret
    refine ⟨ret_int ?_, rfl⟩
    rw [and63 b h0 h]
    unfold keyOf wrap64
    omega
  · have h1 : (b / 9223372036854775808 == 1) = false := by assumption
    have h2 : ¬ b / 9223372036854775808 = 1 := by simpa using h1
    go_ret
    refine ⟨ret_int ?_, rfl⟩
    unfold keyOf wrap64
    omega
theorem isnan_any (n : Nat) (w : World) :
    Calls Try.prog 15 #[.float .f64 n] w fun e w' => e = .returned (.bool (nanB n)) ∧ w = w' := by
  go_enter Try.func15, Try.ntmps15
  go_wp2
  go_ret
  exact ⟨rfl, rfl⟩
@[go_sem] theorem run_frombits (b : Int) (w : World) : (callFunc 5 #[.int .u64 b]).run Try.prog w = .ok (.value (.float .f64 b.toNat)) w := by
  rw [run_callFunc_extern Try.func5 (by kernel_rfl) (by kernel_rfl) (by kernel_rfl) (e := Extern.MathFloatBits.float64frombits) (by kernel_rfl)]
  rfl
@[go_sem] theorem run_bits (n : Nat) (w : World) : (callFunc 9 #[.float .f64 n]).run Try.prog w = .ok (.value (.int .u64 n)) w := by
  rw [run_callFunc_extern Try.func9 (by kernel_rfl) (by kernel_rfl) (by kernel_rfl) (e := Extern.MathFloatBits.float64bits) (by kernel_rfl)]
  rfl
theorem not_neg (x : Int) (h0 : -9223372036854775808 ≤ x) (h1 : x < 0) : bits BinOp.xor IntKind.i64 (-1) x = -x - 1 := by
  show IntKind.i64.wrap ((BitVec.ofInt 64 (-1) ^^^ BitVec.ofInt 64 x).toNat : Int) = _
  have e : BitVec.ofInt 64 (-1) = BitVec.allOnes 64 := by decide
  rw [e, BitVec.allOnes_xor, BitVec.toNat_not, BitVec.toNat_ofInt]
  simp only [IntKind.wrap, IntKind.bits, IntKind.signed]
  simp
  omega
theorem gokey_any (n : Nat) (w : World) (h : n < 18446744073709551616) :
    Calls Try.prog 24 #[.float .f64 n] w fun e w' => e = .returned (.int .i64 (keyOf n)) ∧ w = w' := by
  go_enter Try.func24, Try.ntmps24
  go_wp2
  · have h1 : wrap64 (n : Int) < 0 := by assumption
    have h2 : wrap64 (n : Int) = n - 18446744073709551616 := by unfold wrap64 at h1 ⊢; omega
    go_ret
    refine ⟨ret_int ?_, rfl⟩
    have h3 := not_neg (wrap64 (n : Int)) (by unfold wrap64; omega) h1
    show wrap64 (-9223372036854775808 + bits BinOp.xor IntKind.i64 (-1) (wrap64 ↑n)) = _
    rw [h3, h2]
    unfold wrap64 at h1
    unfold keyOf wrap64
    split <;> omega
  · have h1 : 0 ≤ wrap64 (n : Int) := by assumption
    go_ret
    refine ⟨ret_int ?_, rfl⟩
    show wrap64 (n : Int) = _
    unfold wrap64 at h1
    unfold keyOf wrap64
    split <;> omega
theorem cmp_any (a b : Int) (w : World) :
    Calls Try.prog 23 #[.int .i64 a, .int .i64 b] w fun e w' => e = .returned (.int .i64 (cmpI a b)) ∧ w = w' := by
  go_enter Try.func23, Try.ntmps23
  go_wp2
  · have h : a < b := by assumption
    go_ret; exact ⟨ret_int (by unfold cmpI; rw [if_pos h]), rfl⟩
  · have h : b < a := by assumption
    go_ret; exact ⟨ret_int (by unfold cmpI; rw [if_neg (by omega), if_pos h]), rfl⟩
  · have h : a ≤ b := by assumption
    have h' : b ≤ a := by assumption
    go_ret; exact ⟨ret_int (by unfold cmpI; rw [if_neg (by omega), if_neg (by omega)]), rfl⟩
theorem order_any (a b : Nat) (w : World) (ha : a < 18446744073709551616) (hb : b < 18446744073709551616) :
    Calls Try.prog 16 #[.float .f64 a, .float .f64 b] w fun e w' => e = .returned (.int .i64 (cmpI (keyOf a) (keyOf b))) ∧ w = w' := by
  go_enter Try.func16, Try.ntmps16
  go_wp2_with (first
    | (go_at_call 24; refine (gokey_any _ _ (by assumption)).mono ?_; rintro e w' ⟨rfl, rfl⟩)
    | (go_at_call 23; refine (cmp_any _ _ _).mono ?_; rintro e w' ⟨rfl, rfl⟩))
  go_ret
  exact ⟨rfl, rfl⟩
theorem min_any (a b : Nat) (w : World) (ha : a < 18446744073709551616) (hb : b < 18446744073709551616) :
    Calls Try.prog 7 #[.float .f64 a, .float .f64 b] w fun e w' => e = .returned (.float .f64 (minB a b)) ∧ w = w' := by
  go_enter Try.func7, Try.ntmps7
  go_wp2_with (first
    | (go_at_call 15; refine (isnan_any _ _).mono ?_; rintro e w' ⟨rfl, rfl⟩)
    | (go_at_call 16; refine (order_any _ _ _ (by assumption) (by assumption)).mono ?_; rintro e w' ⟨rfl, rfl⟩))
  all_goals go_ret
  all_goals (refine ⟨?_, rfl⟩; unfold minB; simp [*]; try (intro; omega))
theorem max_any (a b : Nat) (w : World) (ha : a < 18446744073709551616) (hb : b < 18446744073709551616) :
    Calls Try.prog 8 #[.float .f64 a, .float .f64 b] w fun e w' => e = .returned (.float .f64 (maxB a b)) ∧ w = w' := by
  go_enter Try.func8, Try.ntmps8
  go_wp2_with (first
    | (go_at_call 15; refine (isnan_any _ _).mono ?_; rintro e w' ⟨rfl, rfl⟩)
    | (go_at_call 16; refine (order_any _ _ _ (by assumption) (by assumption)).mono ?_; rintro e w' ⟨rfl, rfl⟩))
  all_goals go_ret
  all_goals (refine ⟨?_, rfl⟩; unfold maxB; simp [*]; try (intro; omega))
end Go.Proofs.Ytlnffafiapchkaa
