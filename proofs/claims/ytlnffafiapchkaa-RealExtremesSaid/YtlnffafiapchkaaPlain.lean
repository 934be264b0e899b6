/- The plain part of RealExtremes: the total order of floats by their bits, and what is no number, over natural numbers alone. No conditions. -/
import Ieee.Arith
import GoSem.Core.Float
import Derived.Laws.Cover2
namespace Go.Proofs.Ytlnffafiapchkaa
/-- The number by which bits stand in the total order. -/
def keyOf (b : Int) : Int := if 9223372036854775808 ≤ b then -(b - 9223372036854775808) - 1 else b
/-- The bits of a no number. -/
def nanB (n : Nat) : Bool := decide (9218868437227405312 < n % 9223372036854775808)

/-- -1, 0 or 1, as the first number is less than, equal to, or greater than the second. -/
def cmpI (x y : Int) : Int := if x < y then -1 else if y < x then 1 else 0
/-- The lesser and the greater one of two, by their bits. -/
def minB (a b : Nat) : Nat := if nanB a then a else if nanB b then b else if cmpI (keyOf a) (keyOf b) ≤ 0 then a else b
def maxB (a b : Nat) : Nat := if nanB a then a else if nanB b then b else if 0 ≤ cmpI (keyOf a) (keyOf b) then a else b
theorem keyOf_inj (a b : Int) (ha : 0 ≤ a) (ha' : a < 18446744073709551616) (hb : 0 ≤ b) (hb' : b < 18446744073709551616) (h : keyOf a = keyOf b) : a = b := by
  unfold keyOf at h; split at h <;> split at h <;> omega
theorem keyOf_range (a : Int) (ha : 0 ≤ a) (ha' : a < 18446744073709551616) : -9223372036854775808 ≤ keyOf a ∧ keyOf a ≤ 9223372036854775807 := by
  unfold keyOf; split <;> omega
theorem nan_min (a b : Nat) (h : nanB a = true ∨ nanB b = true) : nanB (minB a b) = true ∧ nanB (maxB a b) = true := by
  unfold minB maxB
  by_cases h1 : nanB a = true
  · simp [h1]
  · have h2 : nanB b = true := by rcases h with h | h; exact absurd h h1; exact h
    simp [h1, h2]
theorem minB_of (a b : Nat) (h1 : nanB a = false) (h2 : nanB b = false) : minB a b = if keyOf b < keyOf a then b else a := by
  unfold minB cmpI
  simp only [h1, h2, Bool.false_eq_true, if_false]
  split <;> split <;> (try split at *) <;> (try omega) <;> rfl
theorem maxB_of (a b : Nat) (ha : a < 18446744073709551616) (hb : b < 18446744073709551616) (h1 : nanB a = false) (h2 : nanB b = false) : maxB a b = if keyOf b < keyOf a then a else b := by
  unfold maxB cmpI
  simp only [h1, h2, Bool.false_eq_true, if_false]
  by_cases h3 : keyOf a < keyOf b
  · simp [h3]; intro h; omega
  · by_cases h4 : keyOf b < keyOf a
    · simp [h3, h4]
    · have := keyOf_inj a b (by omega) (by omega) (by omega) (by omega) (by omega)
      have h5 : a = b := by omega
      subst h5
      simp
/-- The least of some by the total order, and its place, after k rounds. -/
def bestK (a : Int) (xs : List Int) : Nat → Int × Int
  | 0 => (a, 0)
  | k + 1 => if keyOf (xs.getD k 0) < keyOf (bestK a xs k).1 then (xs.getD k 0, (k : Int) + 1) else bestK a xs k
theorem bestK_range (a : Int) (xs : List Int) (ha : 0 ≤ a ∧ a < 18446744073709551616) (hx : ∀ j, 0 ≤ xs.getD j 0 ∧ xs.getD j 0 < 18446744073709551616) (k : Nat) :
    0 ≤ (bestK a xs k).1 ∧ (bestK a xs k).1 < 18446744073709551616 := by
  induction k with
  | zero => exact ha
  | succ k ih => unfold bestK; split; exact hx k; exact ih
@[go_sem] theorem order_self (n : Nat) : (FloatKind.f64.format.order n n == some .eq) = !(nanB n) := by
  unfold Ieee.Format.order nanB Ieee.Format.read
  have e1 : FloatKind.f64.format.signWeight = 9223372036854775808 := by decide
  have e2 : FloatKind.f64.format.binade = 4503599627370496 := by decide
  have e3 : FloatKind.f64.format.infRung = 9218868437227405312 := by decide
  simp only [e1, e2, e3]
  generalize hr : n % 9223372036854775808 = r
  by_cases h1 : r < 4503599627370496
  · have : ¬ (9218868437227405312 < r) := by omega
    simp [h1, this, Ieee.Datum.order]
  · by_cases h2 : r < 9218868437227405312
    · have : ¬ (9218868437227405312 < r) := by omega
      simp [h1, h2, this, Ieee.Datum.order]
    · by_cases h3 : r = 9218868437227405312
      · simp [h3, Ieee.Datum.order]
      · have : 9218868437227405312 < r := by omega
        simp [h1, h2, h3, this, Ieee.Datum.order]
@[go_sem] theorem order_ne_self (n : Nat) : (FloatKind.f64.format.order n n != some .eq) = nanB n := by
  rw [bne, order_self]; simp
end Go.Proofs.Ytlnffafiapchkaa
