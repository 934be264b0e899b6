/- The closed call of 'awake', and 'is' where both bits are the same. No conditions. -/
import Derived.Test.YtlnffafiapchkaaWalks
import Derived.Deep.QuietTactic
import Derived.BigQuiet
import Derived.BigRegion
import Derived.Deep.RegionHeld3
import Derived.RegionTactic
namespace Go.Proofs.Ytlnffafiapchkaa
open Go.RowKit
theorem bcell {W w1 : World} (hb : Below W.heap.size W w1) : (∀ b o, b < W.heap.size → w1.cell? ⟨b, o, none⟩ = W.cell? ⟨b, o, none⟩) ∧ (∀ b o, b < W.heap.size → w1.frozen? ⟨b, o, none⟩ = W.frozen? ⟨b, o, none⟩) :=
  ⟨fun b o h => hb.cell (p := ⟨b, o, none⟩) h, fun b o h => hb.frozen (p := ⟨b, o, none⟩) h⟩
theorem size64_any (w : World) :
    Calls Try.prog 18 #[] w fun e w' => e = .returned (.agg #[.int .i64 52, .int .i64 2047, .int .i64 1023]) ∧ w' = w.alloc (.cells #[.int .i64 52, .int .i64 2047, .int .i64 1023] 48) := by
  go_enter Try.func18, Try.ntmps18
  go_wp2
  exact bodyPost_ret (v := .agg #[.int .i64 52, .int .i64 2047, .int .i64 1023]) (by simp [results, Try.results18, go_sem]) rfl ⟨rfl, rfl⟩
theorem double_any (w : World) :
    Calls Try.prog 19 #[] w fun e w' => e = .returned (.agg #[.int .i64 52, .int .i64 11]) ∧ w' = w.alloc (.cells #[.int .i64 52, .int .i64 11] 51) := by
  go_enter Try.func19, Try.ntmps19
  go_wp2
  exact bodyPost_ret (v := .agg #[.int .i64 52, .int .i64 11]) (by simp [results, Try.results19, go_sem]) rfl ⟨rfl, rfl⟩
theorem top_any (w : World) :
    Calls Try.prog 26 #[.agg #[.int .i64 52, .int .i64 11]] w fun e w' => e = .returned (.int .i64 2047) ∧ w' = w.alloc (.cells #[.int .i64 52, .int .i64 11] 51) := by
  go_enter Try.func26, Try.ntmps26
  go_wp2
  go_ret
  exact ⟨rfl, rfl⟩
theorem sgn_any (w : World) :
    Calls Try.prog 27 #[.agg #[.int .i64 52, .int .i64 11]] w fun e w' => e = .returned (.int .u64 9223372036854775808) ∧ w' = w.alloc (.cells #[.int .i64 52, .int .i64 11] 51) := by
  go_enter Try.func27, Try.ntmps27
  go_wp2
  go_ret
  exact ⟨rfl, rfl⟩
theorem least_any (w : World) :
    Calls Try.prog 28 #[.agg #[.int .i64 52, .int .i64 11]] w fun e w' => e = .returned (.int .i64 (-1074)) ∧ w' = ((w.alloc (.cells #[.int .i64 52, .int .i64 11] 51)).alloc (.cells #[.int .i64 52, .int .i64 11] 51)).drew := by
  go_enter Try.func28, Try.ntmps28
  go_wp2_with fail
  go_region_held3 (fun w' => w'.cell? ⟨w.heap.size, 0, none⟩ = some (.int .i64 52) ∧ w'.cell? ⟨w.heap.size, 1, none⟩ = some (.int .i64 11)) (go_keep) (first
    | (go_at_call 26; refine (top_any _).mono ?_; rintro e w' ⟨rfl, rfl⟩))
  go_wp2
  go_ret
  exact ⟨ret_int (by decide), rfl⟩
set_option maxHeartbeats 1000000 in
theorem zparts_any (w : World) :
    Calls Try.prog 20 #[.agg #[.int .i64 52, .int .i64 11], .int .u64 4609434218613702656] w fun e w' => e = .returned (.agg #[.int .i64 2, .bool false, .int .u64 6755399441055744, .int .i64 (-52), .bool false, .int .u64 0]) ∧ ∃ o1 o2 o3 o4 o5 o6 o7 o8 o9, w' = ((((((((((((w).alloc o1).alloc o2).alloc o3).alloc o4).alloc o5).alloc o6).alloc o7).alloc o8).alloc o9).drew).drew).drew := by
  have b1 : bits BinOp.and IntKind.u64 4609434218613702656 4503599627370495 = 2251799813685248 := by decide
  have b2 : bits BinOp.and IntKind.u64 1023 2047 = 1023 := by decide
  have b3 : bits BinOp.and IntKind.u64 4609434218613702656 9223372036854775808 = 0 := by decide
  have b4 : bits BinOp.or IntKind.u64 4503599627370496 2251799813685248 = 6755399441055744 := by decide
  go_enter Try.func20, Try.ntmps20
  go_wp2_with fail
  go_region_held3 (fun w' => w'.cell? ⟨w.heap.size, 0, none⟩ = some (.int .i64 52) ∧ w'.cell? ⟨w.heap.size, 1, none⟩ = some (.int .i64 11)) (go_keep) (first
    | (go_at_call 26; refine (top_any _).mono ?_; rintro e w' ⟨rfl, rfl⟩))
  go_wp2_with (first
    | (go_at_call 19; refine (double_any _).mono ?_; rintro e w' ⟨rfl, rfl⟩)
    | (go_at_call 26; refine (top_any _).mono ?_; rintro e w' ⟨rfl, rfl⟩)
    | (go_at_call 27; refine (sgn_any _).mono ?_; rintro e w' ⟨rfl, rfl⟩))
  go_region_held3 (fun w' => w'.cell? ⟨w.heap.size, 0, none⟩ = some (.int .i64 52) ∧ w'.cell? ⟨w.heap.size, 1, none⟩ = some (.int .i64 11)) (simp [go_sem, World.cell?_alloc_past, *]) (first
    | (go_at_call 28; refine (least_any _).mono ?_; rintro e w' ⟨rfl, rfl⟩))
  go_wp2_with fail
  refine bodyPost_ret (v := .agg #[.int .i64 2, .bool false, .int .u64 6755399441055744, .int .i64 (-52), .bool false, .int .u64 0]) (by simp [results, Try.results20, go_sem]) rfl ⟨rfl, ?_⟩
  exact ⟨_, _, _, _, _, _, _, _, _, rfl⟩
theorem parts_any (w : World) :
    Calls Try.prog 12 #[.float .f64 4609434218613702656] w fun e w' => e = .returned (.agg #[.int .i64 2, .bool false, .int .u64 6755399441055744, .int .i64 (-52), .bool false, .int .u64 0]) ∧ Below w.heap.size w w' := by
  go_enter Try.func12, Try.ntmps12
  go_wp2_with (first
    | (go_at_call 19; refine (double_any _).mono ?_; rintro e w' ⟨rfl, rfl⟩))
  refine (zparts_any _).mono ?_
  rintro e w1 ⟨rfl, o1, o2, o3, o4, o5, o6, o7, o8, o9, rfl⟩
  go_wp2
  refine bodyPost_ret (v := .agg #[.int .i64 2, .bool false, .int .u64 6755399441055744, .int .i64 (-52), .bool false, .int .u64 0]) (by simp [results, Try.results12, go_sem]) rfl ⟨rfl, ?_⟩
  exact by repeat (first | exact Below.refl _ _ | apply Below.drew | (refine Below.alloc ?_ (by simp <;> omega) _))
set_option maxHeartbeats 2000000 in
theorem zof_any (w : World) :
    Calls Try.prog 21 #[.agg #[.int .i64 52, .int .i64 11], .agg #[.int .i64 2, .bool false, .int .u64 6755399441055744, .int .i64 (-52), .bool false, .int .u64 0]] w fun e w' => e = .returned (.tuple #[.int .u64 4609434218613702656, .bool true]) ∧ Below w.heap.size w w' := by
  go_enter Try.func21, Try.ntmps21
  have b1 : bits BinOp.and IntKind.u64 6755399441055744 4503599627370495 = 2251799813685248 := by decide
  have b2 : bits BinOp.or IntKind.u64 4607182418800017408 2251799813685248 = 4609434218613702656 := by decide
  have b3 : bits BinOp.and IntKind.u64 4609434218613702656 9223372036854775807 = 4609434218613702656 := by decide
  go_wp2_with (first
    | (go_at_call 19; refine (double_any _).mono ?_; rintro e w' ⟨rfl, rfl⟩)
    | (go_at_call 27; refine (sgn_any _).mono ?_; rintro e w' ⟨rfl, rfl⟩))
  go_region_held3 (fun w' => w'.cell? ⟨w.heap.size, 0, none⟩ = some (.int .i64 52) ∧ w'.cell? ⟨w.heap.size, 1, none⟩ = some (.int .i64 11) ∧ w'.cell? ⟨w.heap.size + 1, 2, none⟩ = some (.int .u64 6755399441055744) ∧ w'.cell? ⟨w.heap.size + 1, 3, none⟩ = some (.int .i64 (-52))) (simp [go_sem, World.cell?_alloc_past, *]) (first
    | (go_at_call 28; refine (least_any _).mono ?_; rintro e w' ⟨rfl, rfl⟩))
  go_wp2_with (first
    | (go_at_call 27; refine (sgn_any _).mono ?_; rintro e w' ⟨rfl, rfl⟩))
  have e : bits BinOp.and IntKind.u64 (bits BinOp.or IntKind.u64 ((-51 + 1074) * 4503599627370496) (bits BinOp.and IntKind.u64 6755399441055744 (4503599627370496 - 1))) 9223372036854775807 = 4609434218613702656 := by decide
  simp only [e]
  clear b1 b2 b3 e
  go_region_held3 (fun w' => w'.cell? ⟨w.heap.size, 0, none⟩ = some (.int .i64 52) ∧ w'.cell? ⟨w.heap.size, 1, none⟩ = some (.int .i64 11) ∧ w'.cell? ⟨w.heap.size + 1, 0, none⟩ = some (.int .i64 2) ∧ w'.cell? ⟨w.heap.size + 1, 1, none⟩ = some (.bool false) ∧ w'.cell? ⟨w.heap.size + 1, 2, none⟩ = some (.int .u64 6755399441055744) ∧ w'.cell? ⟨w.heap.size + 1, 3, none⟩ = some (.int .i64 (-52)) ∧ w'.cell? ⟨w.heap.size + 1, 4, none⟩ = some (.bool false) ∧ w'.cell? ⟨w.heap.size + 1, 5, none⟩ = some (.int .u64 0)) (simp [go_sem, World.cell?_alloc_past, *]) (first
    | (go_at_call 20; refine (zparts_any _).mono ?_; rintro e w' ⟨rfl, _, _, _, _, _, _, _, _, _, rfl⟩))
  go_wp2
  go_ret2
  exact ⟨rfl, by repeat (first | exact Below.refl _ _ | apply Below.drew | (refine Below.alloc ?_ (by simp <;> omega) _))⟩
end Go.Proofs.Ytlnffafiapchkaa
