/- The closed call of 'awake', and 'is' where both bits are the same. No conditions. -/
import Derived.Test.YtlnffafiapchkaaAwake
import Derived.Lib.Hide
namespace Go.Proofs.Ytlnffafiapchkaa
open Go.RowKit
theorem below_then {B : Nat} {w w1 w2 : World} (h : Below B w w1) (hB : B ≤ w1.heap.size) (k : Below w1.heap.size w1 w2) : Below B w w2 :=
  h.trans ⟨k.os, k.tape, k.output, k.size, fun i hi => k.block i (Nat.lt_of_lt_of_le hi hB)⟩
set_option maxHeartbeats 1000000 in
theorem of_any (w : World) :
    Calls Try.prog 13 #[.agg #[.int .i64 2, .bool false, .int .u64 6755399441055744, .int .i64 (-52), .bool false, .int .u64 0]] w fun e w' => e = .returned (.tuple #[.float .f64 4609434218613702656, .int .i64 0]) ∧ Below w.heap.size w w' := by
  go_enter Try.func13, Try.ntmps13
  go_wp2_with fail
  go_region_held3 (fun w' => Below w.heap.size w w' ∧ w.heap.size < w'.heap.size ∧ w'.cell? ⟨w.heap.size, 0, none⟩ = some (.int .i64 2) ∧ w'.cell? ⟨w.heap.size, 1, none⟩ = some (.bool false) ∧ w'.cell? ⟨w.heap.size, 2, none⟩ = some (.int .u64 6755399441055744) ∧ w'.cell? ⟨w.heap.size, 3, none⟩ = some (.int .i64 (-52)) ∧ w'.cell? ⟨w.heap.size, 4, none⟩ = some (.bool false) ∧ w'.cell? ⟨w.heap.size, 5, none⟩ = some (.int .u64 0)) ((refine ⟨by repeat (first | exact Below.refl _ _ | assumption | apply Below.drew | (refine Below.alloc ?_ (by simp <;> omega) _)), by first | omega | (simp; omega) | (simp; done), ?_⟩; simp [go_sem, *])) (first
    | (go_at_call 19; refine (double_any _).mono ?_; rintro e w' ⟨rfl, rfl⟩)
    | (go_at_call 21; refine (zof_any _).mono ?_; rintro e w' ⟨rfl, hb⟩; have hB := below_then (B := w.heap.size) (w := w) (by repeat (first | exact Below.refl _ _ | assumption | apply Below.drew | (refine Below.alloc ?_ (by simp <;> omega) _))) (by simp <;> omega) hb; have hz := hb.size; simp at hz; obtain ⟨hc, hf⟩ := bcell hb))
  go_wp2
  go_ret2
  rename_i hH
  exact ⟨rfl, hH.1⟩
theorem up_any (w : World) :
    Calls Try.prog 14 #[.float .f64 4607182418800017408] w fun e w' => e = .returned (.float .f64 4607182418800017409) ∧ w = w' := by
  go_enter Try.func14, Try.ntmps14
  go_wp2_with (first
    | (go_at_call 15; refine (isnan_any _ _).mono ?_; rintro e w' ⟨rfl, rfl⟩) | go_in)
  go_ret
  exact ⟨rfl, rfl⟩
set_option maxHeartbeats 1000000 in
theorem awake_any (w : World) :
    Calls Try.prog 4 #[] w fun e w' => e = .returned (.bool true) ∧ Below w.heap.size w w' := by
  go_enter Try.func4, Try.ntmps4
  go_wp2_with (first
    | (go_at_call 12; refine (parts_any _).mono ?_; rintro e w1 ⟨rfl, hb1⟩; have hz1 := hb1.size; obtain ⟨hc1, hf1⟩ := bcell hb1)
    | (go_at_call 13; refine (of_any _).mono ?_; rintro e w2 ⟨rfl, hb2⟩; have hz2 := hb2.size; simp at hz2; obtain ⟨hc2, hf2⟩ := bcell hb2)
    | (go_at_call 14; refine (up_any _).mono ?_; rintro e w3 ⟨rfl, rfl⟩))
  go_ret
  refine ⟨rfl, ?_⟩
  exact below_then (by repeat (first | exact Below.refl _ _ | assumption | apply Below.drew | (refine Below.alloc ?_ (by first | omega | (simp; done) | (simp; omega)) _))) (by first | omega | (simp; done) | (simp; omega)) hb2
theorem band (b : Int) (h0 : 0 ≤ b) (h : b < 18446744073709551616) : bits BinOp.and IntKind.u64 b 4503599627370495 = b % 4503599627370496 := by
  rw [u64_and b _ h0 (by omega) (by omega) (by omega)]
  have e : (4503599627370495 : Int).toNat = 2 ^ 52 - 1 := by decide
  rw [e, Nat.and_two_pow_sub_one_eq_mod]
  omega
theorem bande (b : Int) (h0 : 0 ≤ b) (h : b < 18446744073709551616) : bits BinOp.and IntKind.u64 b 2047 = b % 2048 := by
  rw [u64_and b _ h0 (by omega) (by omega) (by omega)]
  have e : (2047 : Int).toNat = 2 ^ 11 - 1 := by decide
  rw [e, Nat.and_two_pow_sub_one_eq_mod]
  omega
/-- What 'Parts' says: a kind and five things more. -/
def KindIs (n : Nat) (w : World) (e : Ending) (w' : World) : Prop :=
  ∃ (k c : Int) (a d : Bool) (b f : Int), e = .returned (.agg #[.int .i64 k, .bool a, .int .u64 b, .int .i64 c, .bool d, .int .u64 f]) ∧ (k == 4) = nanB n ∧ Below w.heap.size w w'
theorem sign_any (w : World) :
    Calls Try.prog 25 #[.agg #[.int .i64 52, .int .i64 2047, .int .i64 1023]] w fun e w' => e = .returned (.int .u64 9223372036854775808) ∧ w' = w.alloc (.cells #[.int .i64 52, .int .i64 2047, .int .i64 1023] 48) := by
  go_enter Try.func25, Try.ntmps25
  go_wp2
  go_ret
  exact ⟨rfl, rfl⟩
theorem rparts_any (n : Nat) (w : World) (hn : n < 18446744073709551616) :
    Calls Try.prog 17 #[.int .u64 n, .agg #[.int .i64 52, .int .i64 2047, .int .i64 1023]] w (KindIs n w) := by
  obtain ⟨E, hE, hE0, hE1⟩ : ∃ E, bits BinOp.and IntKind.u64 ((n : Int) / 4503599627370496) 2047 = E ∧ 0 ≤ E ∧ E ≤ 2047 := ⟨_, rfl, by rw [bande _ (by omega) (by omega)]; omega, by rw [bande _ (by omega) (by omega)]; omega⟩
  obtain ⟨F, hF, hF0, hF1⟩ : ∃ F, bits BinOp.and IntKind.u64 (n : Int) 4503599627370495 = F ∧ 0 ≤ F ∧ F ≤ 4503599627370495 := ⟨_, rfl, by rw [band _ (by omega) (by omega)]; omega, by rw [band _ (by omega) (by omega)]; omega⟩
  have hN : nanB n = (decide (E = 2047) && decide (0 < F)) := by
    rw [← hE, ← hF, bande _ (by omega) (by omega), band _ (by omega) (by omega)]
    unfold nanB
    rw [Bool.eq_iff_iff]; simp; omega
  have HN := Lib.hid hN
  clear hN
  go_enter Try.func17, Try.ntmps17
  go_wp2_with (first
    | (go_at_call 25; refine (sign_any _).mono ?_; rintro e w' ⟨rfl, rfl⟩))
  · have h1 : (F == 0) = true := by assumption
    have h2 : ¬ 0 < F := by have := beq_iff_eq.1 h1; omega
    refine bodyPost_ret (v := .agg #[.int .i64 3, _, _, _, _, _]) (by simp [results, Try.results17, go_sem]; exact ⟨rfl, rfl, rfl, rfl, rfl⟩) rfl ⟨_, _, _, _, _, _, rfl, ?_, ?_⟩
    · rw [HN.out]; simp [h2]
    · repeat (first | exact Below.refl _ _ | assumption | apply Below.drew | (refine Below.alloc ?_ (by first | omega | (simp; done) | (simp; omega)) _))
  · have h1 : (F == 0) = false := by assumption
    have h2 : 0 < F := by have := beq_eq_false_iff_ne.1 h1; omega
    have h3 : E = 2047 := by assumption
    refine bodyPost_ret (v := .agg #[.int .i64 4, _, _, _, _, _]) (by simp [results, Try.results17, go_sem]; exact ⟨rfl, rfl, rfl, rfl, rfl⟩) rfl ⟨_, _, _, _, _, _, rfl, ?_, ?_⟩
    · rw [HN.out]; simp [h2, h3]
    · repeat (first | exact Below.refl _ _ | assumption | apply Below.drew | (refine Below.alloc ?_ (by first | omega | (simp; done) | (simp; omega)) _))
  · have h3 : ¬ E = 2047 := by assumption
    go_region
    all_goals go_wp2
    all_goals (refine bodyPost_ret (v := .agg #[.int .i64 2, _, _, _, _, _]) (by simp [results, Try.results17, go_sem]; exact ⟨rfl, rfl, rfl, rfl, rfl⟩) rfl ⟨_, _, _, _, _, _, rfl, ?_, ?_⟩)
    all_goals first | (rw [HN.out]; simp [h3]; done) | (repeat (first | exact Below.refl _ _ | assumption | apply Below.drew | (refine Below.alloc ?_ (by first | omega | (simp; done) | (simp; omega)) _)))
  · have h3 : ¬ E = 2047 := by assumption
    go_region
    all_goals go_wp2
    all_goals (refine bodyPost_ret (v := .agg #[.int .i64 1, _, _, _, _, _]) (by simp [results, Try.results17, go_sem]; exact ⟨rfl, rfl, rfl, rfl, rfl⟩) rfl ⟨_, _, _, _, _, _, rfl, ?_, ?_⟩)
    all_goals first | (rw [HN.out]; simp [h3]; done) | (repeat (first | exact Below.refl _ _ | assumption | apply Below.drew | (refine Below.alloc ?_ (by first | omega | (simp; done) | (simp; omega)) _)))
  · have h3 : ¬ E = 2047 := by assumption
    refine bodyPost_ret (v := .agg #[.int .i64 0, _, _, _, _, _]) (by simp [results, Try.results17, go_sem]; exact ⟨rfl, rfl, rfl, rfl, rfl⟩) rfl ⟨_, _, _, _, _, _, rfl, ?_, ?_⟩
    · rw [HN.out]; simp [h3]
    · repeat (first | exact Below.refl _ _ | assumption | apply Below.drew | (refine Below.alloc ?_ (by first | omega | (simp; done) | (simp; omega)) _))
end Go.Proofs.Ytlnffafiapchkaa
