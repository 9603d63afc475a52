/- Plain law on days (no program in sight): dates, texts of days, and how they are read. -/
import Derived.Lib.ItoaNum
namespace Go.Proofs.YtakainogpokhgaaGreatDoor.Lam
open Go

abbrev Str := List UInt8

def leap (y : Int) : Bool := y % 4 == 0 && (!(y % 100 == 0) || y % 400 == 0)
def lp (y : Int) : Int := if leap y then 1 else 0
def months (y m : Int) : Int :=
  if y < 2000 ∨ 2199 < y ∨ m < 1 ∨ 12 < m then 0
  else if m = 2 then 28 + lp y
  else if m = 4 ∨ m = 6 ∨ m = 9 ∨ m = 11 then 30 else 31
def years (y : Int) : Int :=
  if y = 2000 then 0 else 365 * (y - 2000) + (y - 2001) / 4 - (y - 2001) / 100 + (y - 2001) / 400 + 1
def cum (y m : Int) : Int :=
  if m ≤ 1 then 0 else if m = 2 then 31 else lp y +
    (if m = 3 then 59 else if m = 4 then 90 else if m = 5 then 120 else if m = 6 then 151 else if m = 7 then 181 else if m = 8 then 212
     else if m = 9 then 243 else if m = 10 then 273 else if m = 11 then 304 else if m = 12 then 334 else 365)

theorem lp_01 (y : Int) : 0 ≤ lp y ∧ lp y ≤ 1 := by unfold lp; split <;> omega
theorem lp_eq (y : Int) : lp y = if y % 4 = 0 ∧ (¬ y % 100 = 0 ∨ y % 400 = 0) then 1 else 0 := by
  unfold lp leap
  by_cases h4 : y % 4 = 0 <;> by_cases h1 : y % 100 = 0 <;> by_cases h3 : y % 400 = 0 <;> simp [h4, h1, h3]
theorem years_succ (y : Int) (h : 2000 ≤ y) : years (y + 1) = years y + 365 + lp y := by
  rw [lp_eq]; unfold years
  by_cases e : y = 2000
  · subst e; decide
  · rw [if_neg (by omega), if_neg e]
    split <;> omega
theorem years_mono (a b : Int) (h0 : 2000 ≤ a) (h : a ≤ b) : years a ≤ years b := by
  unfold years; split <;> split <;> omega
theorem years_bd (y : Int) (h0 : 2000 ≤ y) (h1 : y ≤ 2200) : 0 ≤ years y ∧ years y ≤ 73049 := by unfold years; split <;> omega
theorem years_2200 : years 2200 = 73049 := by decide
theorem months_in {y m : Int} (hy : 2000 ≤ y) (hy' : y ≤ 2199) (h1 : 1 ≤ m) (h2 : m ≤ 12) :
    months y m = if m = 2 then 28 + lp y else if m = 4 ∨ m = 6 ∨ m = 9 ∨ m = 11 then 30 else 31 := by
  unfold months; rw [if_neg (by omega)]
theorem months_bd (y m : Int) : 0 ≤ months y m ∧ months y m ≤ 31 := by
  have := lp_01 y
  unfold months; split
  · omega
  · split
    · omega
    · split <;> omega
theorem months_lo {y m : Int} (hy : 2000 ≤ y) (hy' : y ≤ 2199) (h1 : 1 ≤ m) (h2 : m ≤ 12) : 28 ≤ months y m := by
  have := lp_01 y
  rw [months_in hy hy' h1 h2]; split
  · omega
  · split <;> omega
theorem cum_succ {y m : Int} (hy : 2000 ≤ y) (hy' : y ≤ 2199) (h1 : 1 ≤ m) (h2 : m ≤ 12) : cum y (m + 1) = cum y m + months y m := by
  rw [months_in hy hy' h1 h2]
  have hm : m = 1 ∨ m = 2 ∨ m = 3 ∨ m = 4 ∨ m = 5 ∨ m = 6 ∨ m = 7 ∨ m = 8 ∨ m = 9 ∨ m = 10 ∨ m = 11 ∨ m = 12 := by omega
  have := lp_01 y
  rcases hm with rfl | rfl | rfl | rfl | rfl | rfl | rfl | rfl | rfl | rfl | rfl | rfl <;> simp [cum] <;> omega
theorem cum_bd (y m : Int) (h1 : 1 ≤ m) (h2 : m ≤ 13) : 0 ≤ cum y m ∧ cum y m ≤ 366 := by
  have hm : m = 1 ∨ m = 2 ∨ m = 3 ∨ m = 4 ∨ m = 5 ∨ m = 6 ∨ m = 7 ∨ m = 8 ∨ m = 9 ∨ m = 10 ∨ m = 11 ∨ m = 12 ∨ m = 13 := by omega
  have := lp_01 y
  rcases hm with rfl | rfl | rfl | rfl | rfl | rfl | rfl | rfl | rfl | rfl | rfl | rfl | rfl <;> simp [cum] <;> omega
theorem cum_mono {y : Int} (hy : 2000 ≤ y) (hy' : y ≤ 2199) : ∀ (k : Nat) (a : Int), 1 ≤ a → a + k ≤ 13 → cum y a ≤ cum y (a + k)
  | 0, a, _, _ => by simp
  | k + 1, a, h1, h2 => by
    have i := cum_mono hy hy' k a h1 (by omega)
    have s := cum_succ hy hy' (m := a + k) (by omega) (by omega)
    have b := months_bd y (a + k)
    have e : a + ((k + 1 : Nat) : Int) = a + k + 1 := by omega
    rw [e]; omega
theorem cum_mono' {y a b : Int} (hy : 2000 ≤ y) (hy' : y ≤ 2199) (h0 : 1 ≤ a) (h : a ≤ b) (h1 : b ≤ 13) : cum y a ≤ cum y b := by
  have := cum_mono hy hy' (b - a).toNat a h0 (by omega)
  rwa [show a + ((b - a).toNat : Int) = b from by omega] at this
theorem cum_13 (y : Int) : cum y 13 = 365 + lp y := by simp [cum]; omega

/-- a day of a date: none, if there is none -/
def make (y m d : Int) : Option Int := if d < 1 ∨ months y m < d then none else some (years y + (cum y m + (d - 1)))

def isDay (n : Int) : Bool := decide (0 ≤ n) && decide (n ≤ 73048)
theorem isDay_iff {n : Int} : isDay n = true ↔ 0 ≤ n ∧ n ≤ 73048 := by simp [isDay]
theorem isDay_not {n : Int} : isDay n = false ↔ ¬ (0 ≤ n ∧ n ≤ 73048) := by rw [← isDay_iff]; simp

def yearGo : Nat → Int → Int → Int
  | 0, y, _ => y
  | k + 1, y, n => if y < 2199 ∧ years (y + 1) ≤ n then yearGo k (y + 1) n else y
def yearOf (n : Int) : Int := yearGo 200 (2000 + n / 366) n
def monthGo : Nat → Int → Int → Int → Int
  | 0, _, m, _ => m
  | k + 1, y, m, r => if cum y (m + 1) ≤ r ∧ m < 12 then monthGo k y (m + 1) r else m
def monthOf (n : Int) : Int := monthGo 12 (yearOf n) 1 (n - years (yearOf n))
def dayOf (n : Int) : Int := n - years (yearOf n) - cum (yearOf n) (monthOf n) + 1

/-- what a date of a day is -/
structure IsDate (n y m d : Int) : Prop where
  y0 : 2000 ≤ y
  y1 : y ≤ 2199
  m0 : 1 ≤ m
  m1 : m ≤ 12
  d0 : 1 ≤ d
  d1 : d ≤ months y m
  eq : n = years y + (cum y m + (d - 1))

theorem yearGo_ok (n : Int) (h1 : n ≤ 73048) : ∀ (k : Nat) (y : Int), 2000 ≤ y → y ≤ 2199 → years y ≤ n → 2199 - y < k →
    2000 ≤ yearGo k y n ∧ yearGo k y n ≤ 2199 ∧ years (yearGo k y n) ≤ n ∧ n < years (yearGo k y n + 1)
  | 0, y, _, _, _, hk => by omega
  | k + 1, y, hy, hy', hn, hk => by
    unfold yearGo
    by_cases c : y < 2199 ∧ years (y + 1) ≤ n
    · rw [if_pos c]; exact yearGo_ok n h1 k (y + 1) (by omega) (by omega) c.2 (by omega)
    · rw [if_neg c]
      refine ⟨hy, hy', hn, ?_⟩
      by_cases e : y = 2199
      · subst e; have := years_2200; show n < years 2200; omega
      · by_cases g : years (y + 1) ≤ n
        · exact absurd ⟨by omega, g⟩ c
        · omega
theorem years_guess (n : Int) (h0 : 0 ≤ n) (h1 : n ≤ 73048) : years (2000 + n / 366) ≤ n ∧ 2000 ≤ 2000 + n / 366 ∧ 2000 + n / 366 ≤ 2199 := by
  unfold years; split <;> omega
theorem yearOf_ok (n : Int) (h0 : 0 ≤ n) (h1 : n ≤ 73048) :
    2000 ≤ yearOf n ∧ yearOf n ≤ 2199 ∧ years (yearOf n) ≤ n ∧ n < years (yearOf n + 1) := by
  have ⟨a, b, c⟩ := years_guess n h0 h1
  exact yearGo_ok n h1 200 _ b c a (by omega)
theorem monthGo_ok (y r : Int) (hy : 2000 ≤ y) (hy' : y ≤ 2199) (hr : r < 365 + lp y) : ∀ (k : Nat) (m : Int), 1 ≤ m → m ≤ 12 → cum y m ≤ r → 12 - m < k →
    1 ≤ monthGo k y m r ∧ monthGo k y m r ≤ 12 ∧ cum y (monthGo k y m r) ≤ r ∧ r < cum y (monthGo k y m r + 1)
  | 0, m, _, _, _, hk => by omega
  | k + 1, m, hm, hm', hc, hk => by
    unfold monthGo
    by_cases c : cum y (m + 1) ≤ r ∧ m < 12
    · rw [if_pos c]; exact monthGo_ok y r hy hy' hr k (m + 1) (by omega) (by omega) c.1 (by omega)
    · rw [if_neg c]
      refine ⟨hm, hm', hc, ?_⟩
      by_cases e : m = 12
      · subst e; have := cum_13 y; show r < cum y 13; omega
      · by_cases g : cum y (m + 1) ≤ r
        · exact absurd ⟨g, by omega⟩ c
        · omega
theorem dateOf_ok (n : Int) (h0 : 0 ≤ n) (h1 : n ≤ 73048) : IsDate n (yearOf n) (monthOf n) (dayOf n) := by
  obtain ⟨a, b, c, d⟩ := yearOf_ok n h0 h1
  have hs := years_succ (yearOf n) a
  have hc1 : cum (yearOf n) 1 = 0 := by simp [cum]
  obtain ⟨e, f, g, h⟩ := monthGo_ok (yearOf n) (n - years (yearOf n)) a b (by omega) 12 1 (by omega) (by omega) (by omega) (by omega)
  have e' : 1 ≤ monthOf n := e
  have f' : monthOf n ≤ 12 := f
  have g' : cum (yearOf n) (monthOf n) ≤ n - years (yearOf n) := g
  have h' : n - years (yearOf n) < cum (yearOf n) (monthOf n + 1) := h
  have hk := cum_succ a b e' f'
  exact ⟨a, b, e', f', by unfold dayOf; omega, by unfold dayOf; omega, by unfold dayOf; omega⟩
theorem IsDate.year_lt {n y m d : Int} (h : IsDate n y m d) : years y ≤ n ∧ n < years (y + 1) := by
  have c := cum_bd y m h.m0 (by have := h.m1; omega)
  have s := years_succ y h.y0
  have k := cum_succ h.y0 h.y1 h.m0 h.m1
  have h13 := cum_13 y
  have le := cum_mono' h.y0 h.y1 (a := m + 1) (b := 13) (by have := h.m0; omega) (by have := h.m1; omega) (by omega)
  have := h.eq; have := h.d0; have := h.d1
  omega
theorem IsDate.inj {n y m d y' m' d' : Int} (h : IsDate n y m d) (h' : IsDate n y' m' d') : y = y' ∧ m = m' ∧ d = d' := by
  have a := h.year_lt
  have b := h'.year_lt
  have hy : y = y' := by
    have y0 := h.y0; have y0' := h'.y0
    rcases Int.lt_trichotomy y y' with g | g | g
    · have := years_mono (y + 1) y' (by omega) (by omega); omega
    · exact g
    · have := years_mono (y' + 1) y (by omega) (by omega); omega
  subst hy
  have k := cum_succ h.y0 h.y1 h.m0 h.m1
  have k' := cum_succ h'.y0 h'.y1 h'.m0 h'.m1
  have e := h.eq; have e' := h'.eq; have d0 := h.d0; have d1 := h.d1; have d0' := h'.d0; have d1' := h'.d1
  have m0 := h.m0; have m1 := h.m1; have m0' := h'.m0; have m1' := h'.m1
  have hm : m = m' := by
    rcases Int.lt_trichotomy m m' with g | g | g
    · have := cum_mono' h.y0 h.y1 (a := m + 1) (b := m') (by omega) (by omega) (by omega); omega
    · exact g
    · have := cum_mono' h.y0 h.y1 (a := m' + 1) (b := m) (by omega) (by omega) (by omega); omega
  subst hm
  exact ⟨rfl, rfl, by omega⟩
theorem IsDate.of {n y m d : Int} (h : IsDate n y m d) : y = yearOf n ∧ m = monthOf n ∧ d = dayOf n := by
  have a := h.year_lt
  have h0 := years_bd y h.y0 (by have := h.y1; omega)
  have h1 := years_bd (y + 1) (by have := h.y0; omega) (by have := h.y1; omega)
  exact h.inj (dateOf_ok n (by omega) (by omega))
theorem IsDate.make {n y m d : Int} (h : IsDate n y m d) : make y m d = some n := by
  unfold Lam.make; rw [if_neg (by have := h.d0; have := h.d1; omega), h.eq]
theorem IsDate.bd {n y m d : Int} (h : IsDate n y m d) : 0 ≤ n ∧ n ≤ 73048 := by
  have a := h.year_lt
  have h0 := years_bd y h.y0 (by have := h.y1; omega)
  have h1 := years_bd (y + 1) (by have := h.y0; omega) (by have := h.y1; omega)
  omega
theorem months_pos {y m d : Int} (h0 : 1 ≤ d) (h : d ≤ months y m) : 2000 ≤ y ∧ y ≤ 2199 ∧ 1 ≤ m ∧ m ≤ 12 := by
  unfold months at h; split at h <;> omega
theorem make_some {n y m d : Int} (h : make y m d = some n) : IsDate n y m d := by
  unfold make at h; split at h
  · cases h
  · rename_i c
    obtain ⟨a, b, e, f⟩ := months_pos (y := y) (m := m) (d := d) (by omega) (by omega)
    exact ⟨a, b, e, f, by omega, by omega, by injection h with h; omega⟩

/-! texts -/
def two (k : Int) : Str := if k < 10 then 48 :: Lib.itoa k else Lib.itoa k
def dayTxt (n : Int) : Str := if isDay n then Lib.itoa (yearOf n) ++ (45 :: (two (monthOf n) ++ (45 :: two (dayOf n)))) else []

/-- digits as a number: none, if a byte is no digit -/
def digs (acc : Int) : Str → Option Int
  | [] => some acc
  | c :: r => if 48 ≤ c.toNat ∧ c.toNat ≤ 57 then digs (10 * acc + ((c.toNat : Int) - 48)) r else none

/-- an error's number, or what was read -/
inductive Got (α : Type) where
  | ok (a : α)
  | err (c : Nat)
deriving DecidableEq

def day3 : Option Int → Option Int → Option Int → Got Int
  | some y, some m, some d => match make y m d with | some n => .ok n | none => .err 2
  | _, _, _ => .err 1
def dayRead (s : Str) : Got Int :=
  if s.length = 10 ∧ s[4]? = some 45 ∧ s[7]? = some 45 then day3 (digs 0 (s.take 4)) (digs 0 ((s.drop 5).take 2)) (digs 0 (s.drop 8)) else .err 1

theorem year_txt : ∀ k : Fin 200, (Lib.itoa (2000 + (k.val : Int))).length = 4 ∧ digs 0 (Lib.itoa (2000 + (k.val : Int))) = some (2000 + (k.val : Int)) := by decide +kernel
theorem two_txt : ∀ k : Fin 32, (two (k.val : Int)).length = 2 ∧ digs 0 (two (k.val : Int)) = some (k.val : Int) := by decide +kernel
theorem year_txt' {y : Int} (h : 2000 ≤ y) (h' : y ≤ 2199) : (Lib.itoa y).length = 4 ∧ digs 0 (Lib.itoa y) = some y := by
  obtain ⟨k, hk⟩ := Int.eq_ofNat_of_zero_le (a := y - 2000) (by omega)
  obtain rfl : y = 2000 + (k : Int) := by omega
  exact year_txt ⟨k, by omega⟩
theorem two_txt' {d : Int} (h : 0 ≤ d) (h' : d ≤ 31) : (two d).length = 2 ∧ digs 0 (two d) = some d := by
  obtain ⟨k, rfl⟩ := Int.eq_ofNat_of_zero_le h
  exact two_txt ⟨k, by omega⟩

theorem dayTxt_length {n : Int} (h : isDay n = true) : (dayTxt n).length = 10 := by
  have ⟨h0, h1⟩ := isDay_iff.1 h
  have D := dateOf_ok n h0 h1
  have mb := months_bd (yearOf n) (monthOf n)
  have a := (year_txt' D.y0 D.y1).1
  have b := (two_txt' (d := monthOf n) (by have := D.m0; omega) (by have := D.m1; omega)).1
  have c := (two_txt' (d := dayOf n) (by have := D.d0; omega) (by have := D.d1; omega)).1
  unfold dayTxt; rw [if_pos h]; simp [a, b, c]
theorem dayTxt_le (n : Int) : (dayTxt n).length ≤ 10 := by
  cases h : isDay n
  · simp [dayTxt, h]
  · rw [dayTxt_length h]; exact Nat.le_refl _
theorem dayRead_txt {n : Int} (h : isDay n = true) : dayRead (dayTxt n) = .ok n := by
  have hl := dayTxt_length h
  have ⟨h0, h1⟩ := isDay_iff.1 h
  have D := dateOf_ok n h0 h1
  have mb := months_bd (yearOf n) (monthOf n)
  obtain ⟨a, a'⟩ := year_txt' D.y0 D.y1
  obtain ⟨b, b'⟩ := two_txt' (d := monthOf n) (by have := D.m0; omega) (by have := D.m1; omega)
  obtain ⟨c, c'⟩ := two_txt' (d := dayOf n) (by have := D.d0; omega) (by have := D.d1; omega)
  have mk := D.make
  unfold dayRead
  generalize hA : Lib.itoa (yearOf n) = A at *
  generalize hB : two (monthOf n) = B at *
  generalize hC : two (dayOf n) = C at *
  have ht : dayTxt n = A ++ (45 :: (B ++ (45 :: C))) := by unfold dayTxt; rw [if_pos h, hA, hB, hC]
  rw [ht] at hl ⊢
  match A, a, B, b with
  | [a0, a1, a2, a3], _, [b0, b1], _ =>
    simp at hl
    simp [hl, a', b', c', day3, mk]
theorem dayRead_day {s : Str} {n : Int} (h : dayRead s = .ok n) : isDay n = true := by
  unfold dayRead at h
  split at h
  · unfold day3 at h
    split at h
    · split at h
      · rename_i hm; injection h with h; subst h; exact isDay_iff.2 (make_some hm).bd
      · cases h
    · cases h
  · cases h
theorem dayTxt_inj {a b : Int} (ha : isDay a = true) (hb : isDay b = true) (h : dayTxt a = dayTxt b) : a = b := by
  have := dayRead_txt ha; rw [h, dayRead_txt hb] at this; injection this with this; exact this.symm

def p10 (k : Nat) : Int := 10 ^ k
theorem p10_succ (k : Nat) : p10 (k + 1) = 10 * p10 k := by unfold p10; rw [Int.pow_succ]; omega
theorem p10_le {k : Nat} (h : k ≤ 10) : 1 ≤ p10 k ∧ p10 k ≤ 10000000000 := by
  match k, h with
  | 0, _ | 1, _ | 2, _ | 3, _ | 4, _ | 5, _ | 6, _ | 7, _ | 8, _ | 9, _ | 10, _ => decide
theorem digs_step (n : Int) (c : UInt8) (r : Str) (h : 48 ≤ c.toNat ∧ c.toNat ≤ 57) : digs n (c :: r) = digs (10 * n + ((c.toNat : Int) - 48)) r := by
  rw [digs, if_pos h]
theorem digs_stop (n : Int) (c : UInt8) (r : Str) (h : ¬ (48 ≤ c.toNat ∧ c.toNat ≤ 57)) : digs n (c :: r) = none := by unfold digs; rw [if_neg h]
theorem drop_bytes (s : ByteArray) (k : Nat) (h : k < s.size) : s.data.toList.drop k = s[k] :: s.data.toList.drop (k + 1) := by
  rw [List.drop_eq_getElem_cons (by simpa using h)]; rfl
theorem drop_all (s : ByteArray) : s.data.toList.drop s.size = [] := List.drop_of_length_le (by rw [Array.length_toList]; exact Nat.le_refl _)
theorem nDigits_le (k : Nat) (h : k < 10 ^ 20) : Lib.nDigits k ≤ 20 := by
  have : ∀ (j k : Nat), k < 10 ^ (j + 1) → Lib.nDigits k ≤ j + 1 := by
    intro j
    induction j with
    | zero => intro k hk; rw [Lib.nDigits_small (by simpa using hk)]; exact Nat.le_refl _
    | succ j ih =>
      intro k hk
      by_cases c : k < 10
      · rw [Lib.nDigits_small c]; omega
      · rw [Lib.nDigits_big c]
        have := ih (k / 10) (by rw [Nat.pow_succ] at hk; omega)
        omega
  exact this 19 k h
end Go.Proofs.YtakainogpokhgaaGreatDoor.Lam
