/- Walks of package day: texts of days. -/
import Derived.Test.YtakainogpokhgaaGreatDoorDayW
import Derived.Test.YtakainogpokhgaaGreatDoorShelf
namespace Go.Proofs.YtakainogpokhgaaGreatDoor
open Go.RowKit Lam

theorem ret_str {a b : ByteArray} (h : a = b) : Ending.returned (.string a) = .returned (.string b) := by rw [h]

/-- a number and true, or 0 and false -/
def optV : Option Int → Value
  | some n => .tuple #[.int .i64 n, .bool true]
  | none => .tuple #[.int .i64 0, .bool false]

theorem number_any (s : ByteArray) (hs : s.size ≤ 10) (w : World) :
    Calls Tryz.prog 103 #[.string s] w fun e w' => e = .returned (optV (digs 0 s.data.toList)) ∧ w = w' := by
  go_enter Tryz.func103, Tryz.ntmps103
  go_wp2
  go_loop [4, 8] (fun a i => ∃ (k : Nat) (n : Int), k ≤ s.size ∧ i = .int .i64 k ∧ a = .int .i64 n ∧ 0 ≤ n ∧ n < p10 k ∧ digs 0 s.data.toList = digs n (s.data.toList.drop k)) (fun _ i => s.size - (intOf i).toNat)
  case atStart => exact ⟨0, 0, by omega, rfl, rfl, by omega, by simp [p10], rfl⟩
  case round =>
    obtain ⟨k, n, hk, rfl, rfl, n0, n1, hd⟩ := hrel
    have HD := Lib.hid hd
    clear hd
    have pb := p10_le (k := k) (by omega)
    have ps := Lib.hid (p10_succ k)
    by_cases hlt : k < s.size
    · have hb := s[k].toNat_lt
      have hg : s.data.toList.drop k = s[k] :: s.data.toList.drop (k + 1) := drop_bytes s k hlt
      have HG := Lib.hid hg
      clear hg
      by_cases h1 : 48 ≤ s[k].toNat ∧ s[k].toNat ≤ 57
      · have DS := Lib.hid (digs_step n s[k] (s.data.toList.drop (k + 1)) h1)
        obtain ⟨c1, c2⟩ := h1
        go_wp2
        go_round
        case rel =>
          refine ⟨k + 1, 10 * n + ((s[k].toNat : Int) - 48), by omega, by go_num, ?_, by omega, by rw [ps.out]; omega, ?_⟩
          · first | rfl | (congr 1; omega)
          · rw [HD.out, HG.out, DS.out]
        case measure => simp [intOf]; omega
      · have DS := Lib.hid (digs_stop n s[k] (s.data.toList.drop (k + 1)) h1)
        have DN : Hid (digs 0 s.data.toList = none) := Lib.hid (by rw [HD.out, HG.out, DS.out])
        go_wp2
        all_goals go_ret2
        all_goals exact ⟨by rw [DN.out]; rfl, rfl⟩
    · obtain rfl : k = s.size := by omega
      go_wp2
      go_ret2
      rw [HD.out, drop_all s]
      exact ⟨rfl, rfl⟩

theorem itoa_small (k : Nat) : Lib.itoa (k : Int) = Lib.decDigits k := by unfold Lib.itoa; rw [if_neg (by omega)]; simp
theorem itoa_any (n : Int) (h0 : -9223372036854775808 ≤ n) (h1 : n ≤ 9223372036854775807) (w : World) {S : Nat → Bool} {A : Nat → Addr} (E : Env S w A) :
    Calls Tryz.prog 38 #[.int .i64 n] w fun e w' => e = .returned (.string ⟨(Lib.itoa n).toArray⟩) ∧ Below w.heap.size w w' :=
  (Tryz.strconv_Itoa n h0 h1 w E.pow).mono fun _ _ ⟨he, k, os, hw⟩ => ⟨he, by rw [hw]; exact Below.grows w k os⟩
theorem two_any {d : Int} (h0 : 0 ≤ d) (h1 : d ≤ 99) (w : World) :
    Calls Tryz.prog 77 #[.int .i64 d] w fun e w' => e = .returned (.string ⟨(two d).toArray⟩) ∧ w = w' := by
  obtain ⟨k, rfl⟩ := Int.eq_ofNat_of_zero_le h0
  have hk : k < 100 := by omega
  have l1 := Lib.decDigits_length k
  have l2 : (Lib.decDigits k).length ≤ 20 := by rw [l1]; exact (nDigits_le k (by omega))
  clear l1
  have T := Lib.hid (show two (k : Int) = if (k : Int) < 10 then 48 :: Lib.decDigits k else Lib.decDigits k by unfold two; rw [itoa_small])
  by_cases c : (k : Int) < 10
  · go_enter Tryz.func77, Tryz.ntmps77
    go_wp2_with (go_at_call 38; refine (Tryz.strconv_Itoa_small k hk _).mono ?_; rintro e w' ⟨rfl, rfl⟩)
    go_ret
    exact ⟨ret_str (by rw [T.out, if_pos c]; exact ByteArray.mk_append_mk [48] _), rfl⟩
  · go_enter Tryz.func77, Tryz.ntmps77
    go_wp2_with (go_at_call 38; refine (Tryz.strconv_Itoa_small k hk _).mono ?_; rintro e w' ⟨rfl, rfl⟩)
    go_ret
    exact ⟨ret_str (by rw [T.out, if_neg (by omega)]), rfl⟩
/-- day.Text, at whatever number -/
theorem dayText_any (n : Int) (w : World) {S : Nat → Bool} {A : Nat → Addr} (E : Env S w A) (h2 : S 2 = true) :
    Calls Tryz.prog 37 #[.int .i64 n] w fun e w' => e = .returned (.string ⟨(dayTxt n).toArray⟩) ∧ Below w.heap.size w w' := by
  cases h : isDay n
  · have T := Lib.hid (show dayTxt n = [] by simp [dayTxt, h])
    have H := Lib.hid h
    clear h
    go_enter Tryz.func37, Tryz.ntmps37
    go_wp2_with (go_at_call 76; refine (date_no H.out _ A (E.sent 2 h2)).mono ?_; rintro e w' ⟨rfl, m, rfl⟩)
    go_ret
    exact ⟨ret_str (by rw [T.out]), Below.draws _ _⟩
  · obtain ⟨n0, n1⟩ := isDay_iff.1 h
    have D := dateOf_ok n n0 n1
    have y0 := D.y0; have y1 := D.y1; have m0 := D.m0; have m1 := D.m1; have d0 := D.d0
    have d1 : dayOf n ≤ 31 := by have := D.d1; have := months_bd (yearOf n) (monthOf n); omega
    have T := Lib.hid (show dayTxt n = Lib.itoa (yearOf n) ++ (45 :: (two (monthOf n) ++ (45 :: two (dayOf n)))) by simp [dayTxt, h])
    have ly := (year_txt' D.y0 D.y1).1
    have lm := (two_txt' (d := monthOf n) (by omega) (by omega)).1
    have ld := (two_txt' (d := dayOf n) (by omega) (by omega)).1
    have ly' : (Lib.itoa (yearOf n)).length ≤ 4 := by omega
    have lm' : (two (monthOf n)).length ≤ 2 := by omega
    have ld' : (two (dayOf n)).length ≤ 2 := by omega
    have H := Lib.hid h
    clear h ly lm ld D
    go_enter Tryz.func37, Tryz.ntmps37
    go_wp2_with (go_at_call 76; refine (date_yes H.out _).mono ?_; rintro e w' ⟨rfl, rfl⟩)
    refine (Tryz.strconv_Itoa _ (by omega) (by omega) _ E.pow).mono ?_
    rintro e w1 ⟨rfl, k, os, rfl⟩
    have hb := Below.grows w k os
    generalize Sort.grow (w.drewN k) os = w1 at *
    go_wp2_with (fail)
    refine (two_any (by omega) (by omega) _).mono ?_
    rintro e w' ⟨rfl, rfl⟩
    go_wp2_with (fail)
    refine (two_any (by omega) (by omega) _).mono ?_
    rintro e w' ⟨rfl, rfl⟩
    go_wp2_with (fail)
    go_ret
    exact ⟨ret_str (by rw [T.out]; simp [ByteArray.ext_iff]), hb⟩

/-- a number that was read, or an error -/
def gotI (A : Nat → Addr) : Got Int → Value
  | .ok n => .tuple #[.int .i64 n, .nilIface]
  | .err c => .tuple #[.int .i64 0, Er (A c)]
theorem len_data (s : ByteArray) : s.data.toList.length = s.size := by rw [Array.length_toList]; rfl
theorem at_data (s : ByteArray) (k : Nat) (h : k < s.size) : s.data.toList[k]? = some s[k] := by
  rw [List.getElem?_eq_getElem (by rw [len_data]; exact h)]; rfl
theorem u8_45 {a : UInt8} : a = 45 ↔ (a.toNat : Int) = 45 := by
  constructor
  · rintro rfl; rfl
  · intro h; apply UInt8.toNat.inj; show a.toNat = 45; omega
theorem dayRead_bad (s : ByteArray) (h : ¬ (s.data.toList.length = 10 ∧ s.data.toList[4]? = some 45 ∧ s.data.toList[7]? = some 45)) : dayRead s.data.toList = .err 1 := by
  unfold dayRead; rw [if_neg h]
set_option maxRecDepth 100000 in
theorem dayRead_any (s : ByteArray) (w : World) {S : Nat → Bool} {A : Nat → Addr} (E : Env S w A) (h1 : S 1 = true) (h2 : S 2 = true) :
    Calls Tryz.prog 68 #[.string s] w fun e w' => e = .returned (gotI A (dayRead s.data.toList)) ∧ ∃ n, w' = w.drewN n := by
  have hc : w.cell? ⟨1, 0, none⟩ = some (Er (A 1)) := E.sent 1 h1
  by_cases c1 : s.size = 10
  case neg =>
    have B := Lib.hid (dayRead_bad s (fun h => c1 (by rw [← len_data]; exact h.1)))
    have c1' : ((s.size : Int) != 10) = true := by rw [bne_iff_ne]; omega
    clear c1
    go_enter Tryz.func68, Tryz.ntmps68
    go_wp2
    go_quiet (fail)
    go_wp2
    go_ret2
    exact ⟨by rw [B.out]; rfl, _, rfl⟩
  case pos =>
  have hsz : ((s.size : Int) != 10) = false := by simp [c1]
  have g4 : (4 : Nat) < s.size := by omega
  have g7 : (7 : Nat) < s.size := by omega
  have G4 := at_data s 4 g4
  have G7 := at_data s 7 g7
  have LN : s.data.toList.length = 10 := by rw [len_data]; exact c1
  have s10 : s.size ≤ 10 := by omega
  have s10' : 10 ≤ s.size := by omega
  by_cases c2 : s[4] = 45
  case neg =>
    have B := Lib.hid (dayRead_bad s (fun h => c2 (by have := h.2.1; rw [G4] at this; injection this)))
    have e2 : ((s[4].toNat : Int) != 45) = true := by rw [bne_iff_ne]; exact fun h => c2 (u8_45.2 h)
    clear c1 c2 G4 G7 LN
    go_enter Tryz.func68, Tryz.ntmps68
    go_wp2
    go_quiet (fail)
    go_wp2
    go_ret2
    exact ⟨by rw [B.out]; rfl, _, rfl⟩
  case pos =>
  have e4 : ((s[4].toNat : Int) != 45) = false := by rw [c2]; rfl
  by_cases c3 : s[7] = 45
  case neg =>
    have B := Lib.hid (dayRead_bad s (fun h => c3 (by have := h.2.2; rw [G7] at this; injection this)))
    have e2 : ((s[7].toNat : Int) != 45) = true := by rw [bne_iff_ne]; exact fun h => c3 (u8_45.2 h)
    clear c1 c2 c3 G4 G7 LN
    go_enter Tryz.func68, Tryz.ntmps68
    go_wp2
    go_quiet (fail)
    go_wp2
    go_ret2
    exact ⟨by rw [B.out]; rfl, _, rfl⟩
  case pos =>
  have e7 : ((s[7].toNat : Int) != 45) = false := by rw [c3]; rfl
  have p1 : (s.extract 0 4).data.toList = s.data.toList.take 4 := by rw [Lib.extract_data]; simp
  have p2 : (s.extract 5 7).data.toList = (s.data.toList.drop 5).take 2 := Lib.extract_data s 5 7
  have p3 : (s.extract 8 s.size).data.toList = s.data.toList.drop 8 := by
    rw [Lib.extract_data, List.take_of_length_le (by simp)]
  have R : dayRead s.data.toList = day3 (digs 0 (s.extract 0 4).data.toList) (digs 0 (s.extract 5 7).data.toList) (digs 0 (s.extract 8 s.size).data.toList) := by
    rw [p1, p2, p3]; unfold dayRead; rw [if_pos ⟨LN, by rw [G4, c2], by rw [G7, c3]⟩]
  clear p1 p2 p3 LN G4 G7 c1 c2 c3
  have z1 : (s.extract 0 4).size ≤ 10 := by rw [ByteArray.size_extract]; omega
  have z2 : (s.extract 5 7).size ≤ 10 := by rw [ByteArray.size_extract]; omega
  have z3 : (s.extract 8 s.size).size ≤ 10 := by rw [ByteArray.size_extract]; omega
  have N1 := number_any (s.extract 0 4) z1
  have N2 := number_any (s.extract 5 7) z2
  have N3 := number_any (s.extract 8 s.size) z3
  rcases d1 : digs 0 (s.extract 0 4).data.toList with _ | y <;> rcases d2 : digs 0 (s.extract 5 7).data.toList with _ | m <;> rcases d3 : digs 0 (s.extract 8 s.size).data.toList with _ | d <;> rw [d1] at R N1 <;> rw [d2] at R N2 <;> rw [d3] at R N3 <;> clear d1 d2 d3
  all_goals
    have RR := Lib.hid R
    have H1 := Lib.hid N1
    have H2 := Lib.hid N2
    have H3 := Lib.hid N3
    clear R N1 N2 N3 z1 z2 z3
    go_enter Tryz.func68, Tryz.ntmps68
    go_wp2_with fail
    refine (H1.out _).mono ?_
    rintro e w' ⟨rfl, rfl⟩
    dsimp only [optV]
    go_wp2_with fail
    refine (H2.out _).mono ?_
    rintro e w' ⟨rfl, rfl⟩
    dsimp only [optV]
    go_wp2_with fail
    refine (H3.out _).mono ?_
    rintro e w' ⟨rfl, rfl⟩
    dsimp only [optV]
    go_wp2_with fail
  all_goals try
    (go_quiet (fail)
     go_wp2
     go_ret2
     exact ⟨by rw [RR.out]; rfl, _, rfl⟩)
  cases hm : make y m d with
  | none =>
    have R2 : Hid (dayRead s.data.toList = .err 2) := Lib.hid (by rw [RR.out]; simp [day3, hm])
    refine (make_none hm _ A (E.sent 2 h2)).mono ?_
    clear hm
    rintro e w' ⟨rfl, n, rfl⟩
    go_wp2_with fail
    go_ret2
    exact ⟨by rw [R2.out]; rfl, _, rfl⟩
  | some n =>
    have R2 : Hid (dayRead s.data.toList = .ok n) := Lib.hid (by rw [RR.out]; simp [day3, hm])
    refine (make_yes (make_some hm) _).mono ?_
    clear hm
    rintro e w' ⟨rfl, rfl⟩
    go_wp2_with fail
    go_ret2
    exact ⟨by rw [R2.out]; rfl, 0, rfl⟩
end Go.Proofs.YtakainogpokhgaaGreatDoor
