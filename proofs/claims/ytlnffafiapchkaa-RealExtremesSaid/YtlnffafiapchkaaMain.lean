/- The walk of RealExtremes: whatever comes in, it answers true and leaves memory as it was. Conditions: the slice takes at most 2^47 - 4096 bytes, as each row says. -/
import Derived.Test.YtlnffafiapchkaaLeast
import Derived.Deep.LoopGhost
import Derived.Deep.QuietTactic
import Derived.BigQuiet
namespace Go.Proofs.Ytlnffafiapchkaa
open Go.RowKit
def fl (b : Int) : Value := .float .f64 b.toNat
/-- A slice of uint64 that reads as some numbers. -/
def ReadsU (w : World) (A : Option Addr) (xs : List Int) : Prop :=
  0 < xs.length → ∃ ad, A = some ad ∧ ad.block < w.heap.size ∧ ∀ j, j < xs.length → w.cell? (ad.add j) = some (.int .u64 (xs.getD j 0))
theorem block_of_add (a : Addr) (n : Nat) : (a.add n).block = a.block := by unfold Addr.add; split <;> rfl
theorem ReadsU.at_ {w wr : World} {A : Option Addr} {xs : List Int} (h : ReadsU w A xs) (hb : Below w.heap.size w wr) (k : Nat) (hk : k < xs.length) :
    ∃ ad, A = some ad ∧ wr.cell? (ad.add k) = some (.int .u64 (xs.getD k 0)) := by
  obtain ⟨ad, e, hl, hc⟩ := h (by omega)
  exact ⟨ad, e, (hb.cell (by rw [block_of_add]; exact hl)).trans (hc k hk)⟩
theorem info_parts {P : Program} {t : TypeId} {z : Option Value} {s b : Nat} (h : (P.info? t).map (fun i => (i.zero, i.size, i.bytes)) = some (z, s, b)) :
    ∃ i, P.info? t = some i ∧ i.zero = z ∧ i.size = s ∧ i.bytes = b := by
  obtain ⟨i, hi, h⟩ := Option.map_eq_some_iff.1 h
  simp only [Prod.mk.injEq] at h
  exact ⟨i, hi, h.1, h.2.1, h.2.2⟩
theorem info25 : (Try.prog.info? 25).map (fun i => (i.zero, i.size, i.bytes)) = some (some (.float .f64 0), 1, 8) := by kernel_rfl
theorem take_fl (xs : List Int) (k : Nat) (h : k < xs.length) : (xs.take (k + 1)).map fl = (xs.take k).map fl ++ [fl (xs.getD k 0)] := by
  rw [List.take_succ_eq_append_getElem h, List.map_append]
  simp [List.getD_eq_getElem?_getD, List.getElem?_eq_getElem h]
theorem own_base {w : World} {base : Nat} {e : TypeId} {size n : Nat} {v : Value} {xs : List Value} (h : w.ownsRow base e size v n xs) (k : Nat) (hk : v.ownBlock = some k) : base ≤ k := by
  rcases h.2 with ⟨rfl, _⟩ | ⟨g, cap, cur, rfl, hb, _⟩
  · simp [Value.ownBlock] at hk
  · have : g = k := by simpa [Value.ownBlock] using hk
    omega
theorem own_reads {w : World} {base n : Nat} {v : Value} {xs : List Int} (h : w.ownsRow base 25 1 v n (xs.map fl)) (hn : n = xs.length) :
    ∃ A c, v = .slice A xs.length c ∧ ReadsF w A xs ∧ xs.length ≤ c := by
  subst hn
  rcases h.2 with ⟨rfl, h0⟩ | ⟨g, cap, cur, rfl, _, _, hc, _⟩
  · exact ⟨none, 0, by rw [h0], fun hp => absurd hp (by omega), by omega⟩
  · refine ⟨_, cap, rfl, fun hp => ⟨_, rfl, fun j hj => h.cells (g := g) rfl j _ ?_⟩, hc⟩
    simp [fl, List.getElem?_eq_getElem hj, List.getD_eq_getElem?_getD]
theorem pw_below_drewN {B : Nat} {w W : World} (h : Below B w W) (n : Nat) : Below B w (W.drewN n) := ⟨h.os, h.tape, h.output, h.size, h.block⟩
/-- A word of 64 bits. -/
structure Wd (n : Nat) : Prop where mk :: (a : 0 ≤ (n : Int)) (b : (n : Int) < 18446744073709551616) (c : n < 18446744073709551616)
theorem key_n (n : Nat) (w : World) (h : Wd n) : Calls Try.prog 6 #[.int .u64 n] w fun e w' => e = .returned (.int .i64 (keyOf n)) ∧ w = w' := key_any _ _ h.a h.b
theorem min_n (a b : Nat) (w : World) (ha : Wd a) (hb : Wd b) : Calls Try.prog 7 #[.float .f64 a, .float .f64 b] w fun e w' => e = .returned (.float .f64 (minB a b)) ∧ w = w' := min_any _ _ _ ha.c hb.c
theorem max_n (a b : Nat) (w : World) (ha : Wd a) (hb : Wd b) : Calls Try.prog 8 #[.float .f64 a, .float .f64 b] w fun e w' => e = .returned (.float .f64 (maxB a b)) ∧ w = w' := max_any _ _ _ ha.c hb.c
set_option maxHeartbeats 1000000 in
set_option maxRecDepth 100000 in
theorem main_any (a : Nat) (A : Option Addr) (xs : List Int) (c : Nat) (w : World) (ha : a < 18446744073709551616) (hx : ∀ j, 0 ≤ xs.getD j 0 ∧ xs.getD j 0 < 18446744073709551616)
    (hl : xs.length * 8 ≤ 140737488351232) (h : ReadsU w A xs) :
    Calls Try.prog 3 #[.int .u64 a, .slice A xs.length c] w fun e w' => e = .returned (.bool true) ∧ Below w.heap.size w w' := by
  obtain ⟨i0, hi, hz0, hz1, hz2⟩ := info_parts info25
  go_enter Try.func3, Try.ntmps3
  go_wp2_with (go_at_call 4; refine (awake_any _).mono ?_; rintro e w1 ⟨rfl, hb1⟩)
  go_loopw [6, 7, 8, 27] (fun l best at_ i wr => ∃ k : Nat, k ≤ xs.length ∧ i = .int .i64 k ∧ best = .int .u64 (bestK a xs k).1 ∧ at_ = .int .i64 (bestK a xs k).2 ∧ wr.ownsRow w.heap.size 25 1 l k ((xs.take k).map fl) ∧ Below w.heap.size w wr) (fun _ _ _ i _ => xs.length - (intOf i).toNat)
  case atStart => exact ⟨0, Nat.zero_le _, rfl, rfl, rfl, World.ownsRow_nil _ _ _ _, hb1⟩
  case round =>
    obtain ⟨k, hk, rfl, rfl, rfl, hown, hb⟩ := hrel
    by_cases hlt : k < xs.length
    · obtain ⟨ad, rfl, hcell⟩ := h.at_ hb k hlt
      have hbr := bestK_range a xs (by omega) hx k
      have hxk := hx k
      have hsucc := Lib.hid (show bestK a xs (k + 1) = if keyOf (xs.getD k 0) < keyOf (bestK a xs k).1 then (xs.getD k 0, (k : Int) + 1) else bestK a xs k from rfl)
      have htake := Lib.hid (take_fl xs k hlt)
      generalize xs.getD k 0 = y at *
      generalize bestK a xs k = p at *
      obtain ⟨p1, p2⟩ := p
      obtain ⟨g1, g2⟩ := hbr
      obtain ⟨g3, g4⟩ := hxk
      obtain ⟨y, rfl⟩ := Int.eq_ofNat_of_zero_le g3
      obtain ⟨p1, rfl⟩ := Int.eq_ofNat_of_zero_le g1
      have hsz := hb.size
      go_wp2_with (first
        | (at_builtin; refine wpList_append_own _ rfl _ _ 27 rfl w.heap.size 25 i0 (.float .f64 0) 1 8 Try.underlying27 hi hz0 hz1 hz2 rfl (by decide) _ _ _ rfl (hown.alloc _) ⟨wr.heap.size, 0, none⟩ 1 1 [.float .f64 y] rfl rfl ?c1 ?c2 ?c3 ?c4 ?c5 ?_)
        | (go_at_call 6; refine (key_any _ _ (by omega) (by omega)).mono ?_; rintro e w' ⟨rfl, rfl⟩))
      case c2 => rfl
      case c3 => unfold maxLen; omega
      case c4 => omega
      case c5 => omega
      intro l1 w2 hown1 hgrow hn0
      have hb2 : Below w.heap.size w w2 := (hb.alloc hsz _).grown hgrow (by simp; omega) (own_base hown)
      have hown2 : w2.ownsRow w.heap.size 25 1 l1 (k + 1) ((xs.take (k + 1)).map fl) := by rw [htake.out]; simpa [fl] using hown1
      clear hown1 hgrow hn0 hown
      have HO := Lib.hid hown2
      clear hown2
      have HY := Lib.hid (Wd.mk (n := y) (by omega) (by omega) (by omega))
      have HP := Lib.hid (Wd.mk (n := p1) (by omega) (by omega) (by omega))
      have HA := Lib.hid (Wd.mk (n := a) (by omega) (by omega) (by omega))
      have HX := Lib.hid hx
      clear g1 g2 g3 g4 hx ha hsz
      by_cases hn : nanB a = true ∨ nanB y = true
      · obtain ⟨m1, m2⟩ := nan_min a y hn
        have HN := Lib.hid hn
        clear hn
        by_cases hlow : keyOf y < keyOf p1
        · go_wp2_with (first
          | (go_at_call 6; refine (key_n _ _ (by first | exact HY.out | exact HP.out | exact HA.out)).mono ?_; rintro e w' ⟨rfl, rfl⟩)
          | (go_at_call 7; refine (min_n a y _ HA.out HY.out).mono ?_; rintro e w' ⟨rfl, rfl⟩)
          | (go_at_call 8; refine (max_n a y _ HA.out HY.out).mono ?_; rintro e w' ⟨rfl, rfl⟩))
          all_goals first
            | (go_roundw
               case rel => exact ⟨k + 1, by omega, by go_num, by rw [hsucc.out, if_pos hlow], by rw [hsucc.out, if_pos hlow], HO.out, hb2⟩
               case measure => simp [intOf]; omega)
            | exact absurd HN.out (by simp [*])
        · go_wp2_with (first
          | (go_at_call 6; refine (key_n _ _ (by first | exact HY.out | exact HP.out | exact HA.out)).mono ?_; rintro e w' ⟨rfl, rfl⟩)
          | (go_at_call 7; refine (min_n a y _ HA.out HY.out).mono ?_; rintro e w' ⟨rfl, rfl⟩)
          | (go_at_call 8; refine (max_n a y _ HA.out HY.out).mono ?_; rintro e w' ⟨rfl, rfl⟩))
          all_goals first
            | (go_roundw
               case rel => exact ⟨k + 1, by omega, by go_num, by rw [hsucc.out, if_neg (by omega)], by rw [hsucc.out, if_neg (by omega)], HO.out, hb2⟩
               case measure => simp [intOf]; omega)
            | exact absurd HN.out (by simp [*])
      · have hna : nanB a = false := by cases h : nanB a; rfl; exact absurd (.inl h) hn
        have hny : nanB y = false := by cases h : nanB y; rfl; exact absurd (.inr h) hn
        have e1 := minB_of a y hna hny
        have e2 := maxB_of a y HA.out.c HY.out.c hna hny
        clear hn
        by_cases hgt : keyOf y < keyOf a
        · rw [if_pos hgt] at e1 e2
          by_cases hlow : keyOf y < keyOf p1
          · go_wp2_with (first
          | (go_at_call 6; refine (key_n _ _ (by first | exact HY.out | exact HP.out | exact HA.out)).mono ?_; rintro e w' ⟨rfl, rfl⟩)
          | (go_at_call 7; refine (min_n a y _ HA.out HY.out).mono ?_; rintro e w' ⟨rfl, rfl⟩)
          | (go_at_call 8; refine (max_n a y _ HA.out HY.out).mono ?_; rintro e w' ⟨rfl, rfl⟩))
            all_goals
            go_roundw
            case rel => exact ⟨k + 1, by omega, by go_num, by rw [hsucc.out, if_pos hlow], by rw [hsucc.out, if_pos hlow], HO.out, hb2⟩
            case measure => simp [intOf]; omega
          · go_wp2_with (first
          | (go_at_call 6; refine (key_n _ _ (by first | exact HY.out | exact HP.out | exact HA.out)).mono ?_; rintro e w' ⟨rfl, rfl⟩)
          | (go_at_call 7; refine (min_n a y _ HA.out HY.out).mono ?_; rintro e w' ⟨rfl, rfl⟩)
          | (go_at_call 8; refine (max_n a y _ HA.out HY.out).mono ?_; rintro e w' ⟨rfl, rfl⟩))
            all_goals
            go_roundw
            case rel => exact ⟨k + 1, by omega, by go_num, by rw [hsucc.out, if_neg (by omega)], by rw [hsucc.out, if_neg (by omega)], HO.out, hb2⟩
            case measure => simp [intOf]; omega
        · rw [if_neg hgt] at e1 e2
          by_cases hlow : keyOf y < keyOf p1
          · go_wp2_with (first
          | (go_at_call 6; refine (key_n _ _ (by first | exact HY.out | exact HP.out | exact HA.out)).mono ?_; rintro e w' ⟨rfl, rfl⟩)
          | (go_at_call 7; refine (min_n a y _ HA.out HY.out).mono ?_; rintro e w' ⟨rfl, rfl⟩)
          | (go_at_call 8; refine (max_n a y _ HA.out HY.out).mono ?_; rintro e w' ⟨rfl, rfl⟩))
            all_goals
            go_roundw
            case rel => exact ⟨k + 1, by omega, by go_num, by rw [hsucc.out, if_pos hlow], by rw [hsucc.out, if_pos hlow], HO.out, hb2⟩
            case measure => simp [intOf]; omega
          · go_wp2_with (first
          | (go_at_call 6; refine (key_n _ _ (by first | exact HY.out | exact HP.out | exact HA.out)).mono ?_; rintro e w' ⟨rfl, rfl⟩)
          | (go_at_call 7; refine (min_n a y _ HA.out HY.out).mono ?_; rintro e w' ⟨rfl, rfl⟩)
          | (go_at_call 8; refine (max_n a y _ HA.out HY.out).mono ?_; rintro e w' ⟨rfl, rfl⟩))
            all_goals
            go_roundw
            case rel => exact ⟨k + 1, by omega, by go_num, by rw [hsucc.out, if_neg (by omega)], by rw [hsucc.out, if_neg (by omega)], HO.out, hb2⟩
            case measure => simp [intOf]; omega
    · obtain rfl : k = xs.length := by omega
      have hbr := bestK_range a xs (by omega) hx xs.length
      obtain ⟨B1, c1, rfl, hR, hc1⟩ := own_reads (xs := xs) (by simpa using hown) rfl
      have hls := least_any' a B1 xs c1 wr ha hx (by omega) hR
      have hxn := Lib.hid hx
      generalize bestK a xs xs.length = p at *
      obtain ⟨p1, p2⟩ := p
      obtain ⟨g1, g2⟩ := hbr
      obtain ⟨p1, rfl⟩ := Int.eq_ofNat_of_zero_le g1
      have HP := Lib.hid (Wd.mk (n := p1) (by omega) (by omega) (by omega))
      have HL := Lib.hid hls
      clear hls g1 g2 hx ha hown
      go_wp2_with (go_at_call 10; refine HL.out.mono ?_; rintro e w' ⟨rfl, rfl⟩)
      go_loopw [96] (fun i wz => ∃ k : Nat, k ≤ xs.length ∧ i = .int .i64 k ∧ Below w.heap.size w wz ∧ ReadsF wz B1 xs) (fun i _ => xs.length - (intOf i).toNat)
      case atStart => exact ⟨0, Nat.zero_le _, rfl, hb, hR⟩
      case round =>
        rename_i wz hrel
        obtain ⟨k, hk, rfl, hbz, hRz⟩ := hrel
        by_cases hlt : k < xs.length
        · obtain ⟨ad, rfl, hcell⟩ := h.at_ hbz k hlt
          obtain ⟨ad2, rfl, hcell2⟩ := hRz.at_ k hlt
          have hxk := hxn.out k
          generalize xs.getD k 0 = y at *
          obtain ⟨g3, g4⟩ := hxk
          obtain ⟨y, rfl⟩ := Int.eq_ofNat_of_zero_le g3
          clear g3 g4
          go_wp2_with fail
          go_quiet (fail)
          go_wp2
          go_roundw
          case rel => exact ⟨k + 1, by omega, by go_num, pw_below_drewN hbz _, fun hp => hRz hp⟩
          case measure => simp [intOf]; omega
        · go_wp2_with (go_at_call 11; refine (is_any _ _ HP.out.c).mono ?_; rintro e w3 ⟨rfl, hb3⟩)
          go_ret
          exact ⟨rfl, below_then hbz hbz.size hb3⟩
end Go.Proofs.Ytlnffafiapchkaa
