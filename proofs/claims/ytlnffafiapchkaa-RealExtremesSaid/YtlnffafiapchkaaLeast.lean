/- 'is' where both bits are the same, and 'Least' of any floats. No conditions. -/
import Derived.Test.YtlnffafiapchkaaAwaketwo
import Derived.Laws.OwnMore
import Derived.Deep.AppendLies
import Derived.Deep.Draws
namespace Go.Proofs.Ytlnffafiapchkaa
open Go.RowKit
theorem is_any (n : Nat) (w : World) (hn : n < 18446744073709551616) :
    Calls Try.prog 11 #[.float .f64 n, .int .u64 n] w fun e w' => e = .returned (.bool true) ∧ Below w.heap.size w w' := by
  have hfld : ∀ (k c : Int) (a d : Bool) (b f : Int) (w : World), (Instr.field 45 (.agg #[.int .i64 k, .bool a, .int .u64 b, .int .i64 c, .bool d, .int .u64 f]) 0).run Try.prog w = .ok (.int .i64 k) w := fun _ _ _ _ _ _ _ => by kernel_rfl
  go_enter Try.func11, Try.ntmps11
  go_wp2_with (first
    | (go_at_call 18; refine (size64_any _).mono ?_; rintro e w' ⟨rfl, rfl⟩)
    | (go_at_call 17; refine (rparts_any _ _ (by assumption)).mono ?_; rintro e w1 ⟨k, c, a, d, b, f, rfl, hk, hb⟩))
  all_goals go_ret
  all_goals exact ⟨rfl, below_then (by repeat (first | exact Below.refl _ _ | (refine Below.alloc ?_ (Nat.le_refl _) _))) (by simp) hb⟩

theorem order_int (a b : Int) (w : World) (ha : 0 ≤ a) (ha' : a < 18446744073709551616) (hb : 0 ≤ b) (hb' : b < 18446744073709551616) :
    Calls Try.prog 16 #[.float .f64 a.toNat, .float .f64 b.toNat] w fun e w' => e = .returned (.int .i64 (cmpI (keyOf a) (keyOf b))) ∧ w = w' := by
  have h := order_any a.toNat b.toNat w (by omega) (by omega)
  rw [Int.toNat_of_nonneg ha, Int.toNat_of_nonneg hb] at h
  exact h
theorem bestK_hit (a : Int) (xs : List Int) (k : Nat) (h : cmpI (keyOf (xs.getD k 0)) (keyOf (bestK a xs k).1) < 0) : bestK a xs (k + 1) = (xs.getD k 0, (k : Int) + 1) := by
  unfold cmpI at h
  show (if _ then _ else _) = _
  split at h
  · rw [if_pos (by assumption)]
  · split at h <;> omega
theorem bestK_miss (a : Int) (xs : List Int) (k : Nat) (h : 0 ≤ cmpI (keyOf (xs.getD k 0)) (keyOf (bestK a xs k).1)) : bestK a xs (k + 1) = bestK a xs k := by
  unfold cmpI at h
  show (if _ then _ else _) = _
  split at h
  · omega
  · rw [if_neg (by assumption)]
/-- A slice of floats that reads as some bits. -/
def ReadsF (w : World) (A : Option Addr) (xs : List Int) : Prop :=
  0 < xs.length → ∃ ad, A = some ad ∧ ∀ j, j < xs.length → w.cell? (ad.add j) = some (.float .f64 (xs.getD j 0).toNat)
theorem ReadsF.at_ {w : World} {A : Option Addr} {xs : List Int} (h : ReadsF w A xs) (k : Nat) (hk : k < xs.length) :
    ∃ ad, A = some ad ∧ w.cell? (ad.add k) = some (.float .f64 (xs.getD k 0).toNat) := by
  obtain ⟨ad, e, hc⟩ := h (by omega)
  exact ⟨ad, e, hc k hk⟩
theorem least_any' (a : Nat) (A : Option Addr) (xs : List Int) (c : Nat) (w : World) (ha : a < 18446744073709551616) (hx : ∀ j, 0 ≤ xs.getD j 0 ∧ xs.getD j 0 < 18446744073709551616)
    (hl : xs.length ≤ 9223372036854775807) (h : ReadsF w A xs) :
    Calls Try.prog 10 #[.float .f64 a, .slice A xs.length c] w fun e w' => e = .returned (.tuple #[.float .f64 (bestK a xs xs.length).1.toNat, .int .i64 (bestK a xs xs.length).2]) ∧ w = w' := by
  go_enter Try.func10, Try.ntmps10
  go_wp2
  go_loop [6, 7, 13] (fun l at_ i => ∃ k : Nat, k ≤ xs.length ∧ i = .int .i64 k ∧ l = .float .f64 (bestK a xs k).1.toNat ∧ at_ = .int .i64 (bestK a xs k).2) (fun _ _ i => xs.length - (intOf i).toNat)
  case atStart => exact ⟨0, Nat.zero_le _, rfl, rfl, rfl⟩
  case round =>
    obtain ⟨k, hk, rfl, rfl, rfl⟩ := hrel
    have hbr := bestK_range a xs (by omega) hx k
    have hxk := hx k
    by_cases hlt : k < xs.length
    · obtain ⟨ad, rfl, hcell⟩ := h.at_ k hlt
      have h1 := Lib.hid (bestK_hit a xs k)
      have h2 := Lib.hid (bestK_miss a xs k)
      generalize xs.getD k 0 = y at *
      generalize bestK a xs k = p at *
      obtain ⟨p1, p2⟩ := p
      obtain ⟨g1, g2⟩ := hbr
      obtain ⟨g3, g4⟩ := hxk
      go_wp2_with (go_at_call 16; refine (order_int _ _ _ (by omega) (by omega) (by omega) (by omega)).mono ?_; rintro e w' ⟨rfl, rfl⟩)
      · have h3 := h1.out (by assumption)
        go_round
        case rel => exact ⟨k + 1, by omega, by go_num, by rw [h3], by rw [h3]⟩
        case measure => simp [intOf]; omega
      · have h3 := h2.out (by assumption)
        go_round
        case rel => exact ⟨k + 1, by omega, by go_num, by rw [h3], by rw [h3]⟩
        case measure => simp [intOf]; omega
    · go_wp2
      go_ret2
      obtain rfl : k = xs.length := by omega
      exact ⟨rfl, rfl⟩
end Go.Proofs.Ytlnffafiapchkaa
