/- Walks of package day: what Right, Months, Make, Date, Text, Read of a day answer. -/
import Derived.Test.YtakainogpokhgaaGreatDoorProg
import Derived.Test.YtakainogpokhgaaGreatDoorDay
import Derived.WalkKit
import Derived.BigQuiet
import Derived.Deep.QuietTactic
import Derived.Lib.Hide
import Derived.Test.YtakainogpokhgaaGreatDoorBase
namespace Go.Proofs.YtakainogpokhgaaGreatDoor
open Go.RowKit Lam


theorem right_any (n : Int) (w : World) : Calls Tryz.prog 28 #[.int .i64 n] w fun e w' => e = .returned (.bool (isDay n)) ∧ w = w' := by
  go_enter Tryz.func28, Tryz.ntmps28
  go_wp2
  all_goals go_ret
  all_goals exact ⟨ret_bool (by unfold isDay; simp; omega), rfl⟩

theorem leap_any (y : Int) (h : 0 ≤ y) (w : World) : Calls Tryz.prog 135 #[.int .i64 y] w fun e w' => e = .returned (.bool (leap y)) ∧ w = w' := by
  go_enter Tryz.func135, Tryz.ntmps135
  go_wp2
  all_goals go_ret
  all_goals exact ⟨ret_bool (by unfold leap; simp [*]), rfl⟩
theorem years_any (y : Int) (h : 2000 ≤ y) (h' : y ≤ 3000) (w : World) : Calls Tryz.prog 112 #[.int .i64 y] w fun e w' => e = .returned (.int .i64 (years y)) ∧ w = w' := by
  by_cases e : y = 2000
  · subst e
    go_enter Tryz.func112, Tryz.ntmps112
    go_wp2
    go_ret
    exact ⟨rfl, rfl⟩
  · have c : (y - 2000 == 0) = false := by simp; omega
    have p : 2001 ≤ y := by omega
    go_enter Tryz.func112, Tryz.ntmps112
    go_wp2
    go_ret
    exact ⟨ret_int (by unfold years; rw [if_neg e]; omega), rfl⟩
theorem months_any (y m : Int) (w : World) : Calls Tryz.prog 113 #[.int .i64 y, .int .i64 m] w fun e w' => e = .returned (.int .i64 (months y m)) ∧ w = w' := by
  by_cases c1 : y < 2000
  · go_enter Tryz.func113, Tryz.ntmps113
    go_wp2
    go_ret
    exact ⟨ret_int (by unfold months; rw [if_pos (by omega)]), rfl⟩
  by_cases c2 : 2199 < y
  · go_enter Tryz.func113, Tryz.ntmps113
    go_wp2
    go_ret
    exact ⟨ret_int (by unfold months; rw [if_pos (by omega)]), rfl⟩
  by_cases c3 : m < 1
  · go_enter Tryz.func113, Tryz.ntmps113
    go_wp2
    go_ret
    exact ⟨ret_int (by unfold months; rw [if_pos (by omega)]), rfl⟩
  by_cases c4 : 12 < m
  · go_enter Tryz.func113, Tryz.ntmps113
    go_wp2
    go_ret
    exact ⟨ret_int (by unfold months; rw [if_pos (by omega)]), rfl⟩
  have y0 : 2000 ≤ y := by omega
  have y1 : y ≤ 2199 := by omega
  have m0 : 1 ≤ m := by omega
  have m1 : m ≤ 12 := by omega
  clear c1 c2 c3 c4
  have key := Lib.hid (months_in y0 y1 m0 m1)
  go_enter Tryz.func113, Tryz.ntmps113
  go_wp2_with (go_at_call 135; refine (leap_any _ (by omega) _).mono ?_; rintro e w' ⟨rfl, rfl⟩)
  all_goals go_ret
  all_goals exact ⟨ret_int (by rw [key.out]; simp only [beq_iff_eq, beq_eq_false_iff_ne, ne_eq, lp] at *; (repeat' split) <;> first | omega | simp_all), rfl⟩

theorem make_none {y m d : Int} (h : make y m d = none) (w : World) (A : Nat → Addr) (hs : Sent 2 w A) :
    Calls Tryz.prog 104 #[.int .i64 y, .int .i64 m, .int .i64 d] w fun e w' => e = .returned (.tuple #[.int .i64 0, Er (A 2)]) ∧ ∃ n, w' = w.drewN n := by
  have hc : w.cell? ⟨2, 0, none⟩ = some (Er (A 2)) := hs
  have hd : d < 1 ∨ months y m < d := by unfold make at h; split at h <;> simp_all
  have hb := months_bd y m
  by_cases d1 : d < 1
  · clear hd
    go_enter Tryz.func104, Tryz.ntmps104
    go_wp2
    go_quiet (fail)
    go_wp2
    go_ret2
    exact ⟨rfl, _, rfl⟩
  · have d2 : months y m < d := by omega
    clear hd
    go_enter Tryz.func104, Tryz.ntmps104
    go_wp2_with (go_at_call 113; refine (months_any _ _ _).mono ?_; rintro e w' ⟨rfl, rfl⟩)
    go_quiet (fail)
    go_wp2
    go_ret2
    exact ⟨rfl, _, rfl⟩
theorem make_yes {y m d n : Int} (D : IsDate n y m d) (w : World) :
    Calls Tryz.prog 104 #[.int .i64 y, .int .i64 m, .int .i64 d] w fun e w' => e = .returned (.tuple #[.int .i64 n, .nilIface]) ∧ w = w' := by
  have d0 := D.d0; have d1 := D.d1; have y0 := D.y0; have y1 := D.y1; have m0 := D.m0; have m1 := D.m1
  have hb := months_bd y m
  have yb := years_bd y y0 (by omega)
  have he := Lib.hid D.eq
  have c1 : cum y 1 = 0 := by simp [cum]
  have C1 := Lib.hid c1
  clear c1
  go_enter Tryz.func104, Tryz.ntmps104
  go_wp2_with (first | (go_at_call 113; refine (months_any _ _ _).mono ?_; rintro e w' ⟨rfl, rfl⟩) | (go_at_call 112; refine (years_any _ (by omega) (by omega) _).mono ?_; rintro e w' ⟨rfl, rfl⟩))
  go_loop [8, 9] (fun a k => ∃ j : Int, 1 ≤ j ∧ j ≤ m ∧ k = .int .i64 j ∧ a = .int .i64 (years y + d - 1 + cum y j)) (fun _ k => (m - intOf k).toNat)
  case atStart => exact ⟨1, by omega, by omega, rfl, by rw [C1.out]; simp⟩
  case round =>
    obtain ⟨j, j0, j1, rfl, rfl⟩ := hrel
    have cb := cum_bd y j j0 (by omega)
    have mb := months_bd y j
    by_cases hlt : j < m
    · have cs := Lib.hid (cum_succ y0 y1 j0 (by omega : j ≤ 12))
      go_wp2_with (go_at_call 113; refine (months_any _ _ _).mono ?_; rintro e w' ⟨rfl, rfl⟩)
      go_round
      case rel => exact ⟨j + 1, by omega, by omega, rfl, by rw [cs.out]; congr 1; omega⟩
      case measure => simp [intOf]; omega
    · obtain rfl : j = m := by omega
      go_wp2
      go_ret2
      exact ⟨by rw [he.out]; exact ret_int2 (by omega), rfl⟩
theorem date_no {n : Int} (h : isDay n = false) (w : World) (A : Nat → Addr) (hs : Sent 2 w A) :
    Calls Tryz.prog 76 #[.int .i64 n] w fun e w' => e = .returned (.tuple #[.int .i64 0, .int .i64 0, .int .i64 0, Er (A 2)]) ∧ ∃ n, w' = w.drewN n := by
  have hc : w.cell? ⟨2, 0, none⟩ = some (Er (A 2)) := hs
  have H := Lib.hid h
  clear h
  go_enter Tryz.func76, Tryz.ntmps76
  go_wp2_with (go_at_call 28; refine (right_any _ _).mono ?_; rintro e w' ⟨rfl, rfl⟩; rw [H.out])
  go_quiet (fail)
  go_wp2
  refine bodyPost_ret (results_tmp4 rfl _ _ _) rfl ?_
  exact ⟨rfl, _, rfl⟩
theorem date_yes {n : Int} (h : isDay n = true) (w : World) :
    Calls Tryz.prog 76 #[.int .i64 n] w fun e w' => e = .returned (.tuple #[.int .i64 (yearOf n), .int .i64 (monthOf n), .int .i64 (dayOf n), .nilIface]) ∧ w = w' := by
  obtain ⟨n0, n1⟩ := isDay_iff.1 h
  have H := Lib.hid h
  clear h
  obtain ⟨g1, g2, g3⟩ := years_guess n n0 n1
  go_enter Tryz.func76, Tryz.ntmps76
  go_wp2_with (go_at_call 28; refine (right_any _ _).mono ?_; rintro e w' ⟨rfl, rfl⟩; rw [H.out])
  go_loop [2] (fun t => ∃ y : Int, 2000 ≤ y ∧ y ≤ 2199 ∧ years y ≤ n ∧ t = .int .i64 y) (fun t => (2199 - intOf t).toNat)
  case atStart => exact ⟨_, g2, g3, g1, rfl⟩
  case round =>
    clear g1 g2 g3
    obtain ⟨y, y0, y1, hy, rfl⟩ := hrel
    by_cases hc : y < 2199 ∧ years (y + 1) ≤ n
    · obtain ⟨hlt, hd⟩ := hc
      go_wp2_with (go_at_call 112; refine (years_any _ (by omega) (by omega) _).mono ?_; rintro e w' ⟨rfl, rfl⟩)
      go_round
      case rel => exact ⟨y + 1, by omega, by omega, hd, rfl⟩
      case measure => simp [intOf]; omega
    · have hz : n < years (y + 1) := by
        by_cases e : y = 2199
        · have := years_2200; rw [e]; show n < years 2200; omega
        · omega
      clear hc
      have yb := years_bd y y0 (by omega)
      have hs := years_succ y y0
      have hl := lp_01 y
      have h13 := Lib.hid (cum_13 y)
      have r0 : n - years y < 365 + lp y := by omega
      have c1 : cum y 1 = 0 := by simp [cum]
      have C1 := Lib.hid c1
      clear c1 hs
      by_cases hlt : y < 2199
      all_goals
        go_wp2_with (go_at_call 112; refine (years_any _ (by omega) (by omega) _).mono ?_; rintro e w' ⟨rfl, rfl⟩)
        go_loop [0, 3] (fun r k => ∃ m : Int, 1 ≤ m ∧ m ≤ 12 ∧ k = .int .i64 m ∧ cum y m ≤ n - years y ∧ r = .int .i64 (n - years y - cum y m)) (fun _ k => (12 - intOf k).toNat)
        case atStart => exact ⟨1, by omega, by omega, rfl, by rw [C1.out]; omega, by rw [C1.out]; simp⟩
        case round =>
          obtain ⟨m, m0, m1, rfl, hr, rfl⟩ := hrel
          have mb := months_bd y m
          have cb := cum_bd y m m0 (by omega)
          have cs := Lib.hid (cum_succ y0 y1 m0 m1)
          by_cases hd : months y m ≤ n - years y - cum y m
          · have hm : m < 12 := by
              by_cases e : m = 12
              · have a := cs.out; have b := h13.out; rw [e] at a hd; have : cum y (12 + 1) = cum y 13 := rfl; omega
              · omega
            go_wp2_with (go_at_call 113; refine (months_any _ _ _).mono ?_; rintro e w' ⟨rfl, rfl⟩)
            go_round
            case rel => exact ⟨m + 1, by omega, by omega, rfl, by rw [cs.out]; omega, by rw [cs.out]; congr 1; omega⟩
            case measure => simp [intOf]; omega
          · go_wp2_with (go_at_call 113; refine (months_any _ _ _).mono ?_; rintro e w' ⟨rfl, rfl⟩)
            refine bodyPost_ret (results_tmp4 rfl _ _ _) rfl ?_
            have D : IsDate n y m (n - years y - cum y m + 1) := ⟨y0, y1, m0, m1, by omega, by omega, by omega⟩
            obtain ⟨e1, e2, e3⟩ := D.of
            refine ⟨?_, rfl⟩
            rw [← e1, ← e2, ← e3]; rfl
end Go.Proofs.YtakainogpokhgaaGreatDoor
