/- Plain law on rules (no program in sight): a rule is read as it was written. -/
import Derived.Test.YtakainogpokhgaaGreatDoorText
namespace Go.Proofs.YtakainogpokhgaaGreatDoor.Lam
open Go

structure Rule where
  freq : Str
  every : Int
  days : List Int
  count : Int
  till : Int
deriving DecidableEq

def sOnce : Str := [111, 110, 99, 101]
def sDaily : Str := [100, 97, 105, 108, 121]
def sWeekly : Str := [119, 101, 101, 107, 108, 121]
def sMonthly : Str := [109, 111, 110, 116, 104, 108, 121]
def sYearly : Str := [121, 101, 97, 114, 108, 121]
def freqs : List Str := [sOnce, sDaily, sWeekly, sMonthly, sYearly]
def names : List Str := [[109, 111], [116, 117], [119, 101], [116, 104], [102, 114], [115, 97], [115, 117]]
def sCount : Str := [99, 111, 117, 110, 116]
def sUntil : Str := [117, 110, 116, 105, 108]

def within (n a b : Int) : Bool := decide (a ≤ n) && decide (n ≤ b)
def rising : List Int → Bool
  | a :: b :: r => decide (a < b) && rising (b :: r)
  | _ => true
def boundOk (r : Rule) : Bool := within r.every 1 100 && within r.count 0 1000 && within r.till (-1) 73048 && r.days.all (within · 0 6)
def shapeOk (r : Rule) : Bool :=
  (decide (r.freq ≠ sOnce) || (r.every == 1 && r.count == 0 && r.till == -1)) && (decide (r.freq = sWeekly) || r.days.isEmpty) && (r.count == 0 || r.till == -1)
def ruleErr (r : Rule) : Nat :=
  if freqs.contains r.freq = false then 4 else if boundOk r = false then 2 else if shapeOk r = false then 3 else if rising r.days = false then 8 else 0

def nameOf (d : Int) : Str := names.getD d.toNat []
def daysTxt (l : List Int) : Str := Lib.join (l.map nameOf) [44]
def ruleTxt (r : Rule) : Str :=
  if ruleErr r ≠ 0 then [] else if r.freq = sOnce then sOnce else
  r.freq ++ (32 :: (Lib.itoa r.every ++ ((if r.days.isEmpty then [] else 32 :: daysTxt r.days) ++
    ((if 0 < r.count then 32 :: (sCount ++ (32 :: Lib.itoa r.count)) else []) ++ (if r.till ≠ -1 then 32 :: (sUntil ++ (32 :: dayTxt r.till)) else [])))))

/-- which one of the names a word is (-1: none) -/
def nameIdx (w : Str) : Option Nat := names.idxOf? w
def daysGo : List Str → Option (List Int)
  | [] => some []
  | w :: r => match nameIdx w with
    | none => none
    | some k => match daysGo r with
      | none => none
      | some l => some ((k : Int) :: l)
def daysOf (s : Str) : Option (List Int) := daysGo (cuts 44 s)
/-- what stands behind a rule's days -/
def tailOf (l : List Str) : Got (Int × Int) :=
  match l with
  | [] => .ok (0, -1)
  | [a, b] =>
    if a = sCount then match numW 9 b with
      | some n => if 0 < n then .ok (n, -1) else .err 1
      | none => .err 1
    else if a = sUntil then match dayRead b with
      | .ok n => .ok (0, n)
      | .err c => .err c
    else .err 1
  | _ => .err 1
def splitDays (l : List Str) : List Int × List Str :=
  match l with
  | [] => ([], [])
  | w :: t => match daysOf w with
    | some d => (d, t)
    | none => ([], w :: t)
def ruleRead (s : Str) : Got Rule :=
  if s = sOnce then .ok ⟨sOnce, 1, [], 0, -1⟩ else
  match cuts 32 s with
  | f :: e :: l =>
    if f = sOnce ∨ freqs.contains f = false then .err 1 else
    match numW 9 e with
    | none => .err 1
    | some n =>
      match tailOf (splitDays l).2 with
      | .err c => .err c
      | .ok (k, t) =>
        let r : Rule := ⟨f, n, (splitDays l).1, k, t⟩
        if ruleErr r = 0 then .ok r else .err (ruleErr r)
  | _ => .err 1

theorem ruleErr_zero {r : Rule} (h : ruleErr r = 0) : freqs.contains r.freq = true ∧ boundOk r = true ∧ shapeOk r = true ∧ rising r.days = true := by
  unfold ruleErr at h
  split at h
  · cases h
  · split at h
    · cases h
    · split at h
      · cases h
      · split at h
        · cases h
        · simp_all
theorem name_idx : ∀ k : Fin 7, nameIdx (nameOf (k.val : Int)) = some k.val ∧ (44 : UInt8) ∉ nameOf (k.val : Int) ∧ (32 : UInt8) ∉ nameOf (k.val : Int) ∧ (124 : UInt8) ∉ nameOf (k.val : Int) := by decide +kernel
theorem daysOf_txt {l : List Int} (hne : l ≠ []) (h : ∀ d ∈ l, 0 ≤ d ∧ d ≤ 6) : daysOf (daysTxt l) = some l := by
  unfold daysOf daysTxt
  rw [cuts_join (by simpa using hne)]
  · clear hne
    induction l with
    | nil => rfl
    | cons d r ih =>
      have ⟨h0, h1⟩ := h d (by simp)
      obtain ⟨k, rfl⟩ := Int.eq_ofNat_of_zero_le h0
      have e := (name_idx ⟨k, by omega⟩).1
      simp only at e
      have ih' := ih (fun d hd => h d (by simp [hd]))
      simp only [List.map_cons, daysGo, e, ih']
  · intro p hp
    obtain ⟨d, hd, rfl⟩ := List.mem_map.1 hp
    have ⟨h0, h1⟩ := h d hd
    obtain ⟨k, rfl⟩ := Int.eq_ofNat_of_zero_le h0
    exact (name_idx ⟨k, by omega⟩).2.1
theorem mem_join {c x : UInt8} : ∀ {ps : List Str}, x ∈ Lib.join ps [c] → x = c ∨ ∃ p ∈ ps, x ∈ p
  | [], h => by simp [Lib.join_nil] at h
  | [p], h => by rw [Lib.join_one] at h; exact .inr ⟨p, by simp, h⟩
  | p :: q :: r, h => by
    rw [join_cons2] at h
    rcases List.mem_append.1 h with h | h
    · exact .inr ⟨p, by simp, h⟩
    · rcases List.mem_cons.1 h with h | h
      · exact .inl h
      · rcases mem_join h with h | ⟨p', hp, h⟩
        · exact .inl h
        · exact .inr ⟨p', by simp [hp], h⟩
theorem mem_days {x : UInt8} {l : List Int} (h : ∀ d ∈ l, 0 ≤ d ∧ d ≤ 6) (hx : x ∈ daysTxt l) : x ≠ 32 ∧ x ≠ 124 := by
  rcases mem_join hx with rfl | ⟨p, hp, hx⟩
  · decide
  · obtain ⟨d, hd, rfl⟩ := List.mem_map.1 hp
    have ⟨h0, h1⟩ := h d hd
    obtain ⟨k, rfl⟩ := Int.eq_ofNat_of_zero_le h0
    have e := (name_idx ⟨k, by omega⟩).2.2
    exact ⟨fun h => e.1 (h ▸ hx), fun h => e.2 (h ▸ hx)⟩
theorem freq_ok {f : Str} (h : freqs.contains f = true) : (32 : UInt8) ∉ f ∧ (124 : UInt8) ∉ f ∧ f ≠ [] := by
  have : f ∈ freqs := by simpa using h
  simp [freqs] at this
  rcases this with rfl | rfl | rfl | rfl | rfl <;> decide
theorem bounds {r : Rule} (h : boundOk r = true) : 1 ≤ r.every ∧ r.every ≤ 100 ∧ 0 ≤ r.count ∧ r.count ≤ 1000 ∧ -1 ≤ r.till ∧ r.till ≤ 73048 ∧ ∀ d ∈ r.days, 0 ≤ d ∧ d ≤ 6 := by
  simp [boundOk, within] at h
  obtain ⟨⟨⟨⟨a, b⟩, c, d⟩, e, f⟩, g⟩ := h
  exact ⟨a, b, c, d, e, f, g⟩

/-- ████ A RULE IS READ AS IT WAS WRITTEN ████ -/
theorem ruleRead_txt {r : Rule} (h : ruleErr r = 0) : ruleRead (ruleTxt r) = .ok r := by
  obtain ⟨hf, hb, hs, hr⟩ := ruleErr_zero h
  obtain ⟨e0, e1, c0, c1, t0, t1, hd⟩ := bounds hb
  obtain ⟨f, e, ds, c, t⟩ := r
  simp only at *
  unfold ruleTxt
  rw [if_neg (by simp [h])]
  by_cases ho : f = sOnce
  · subst ho
    rw [if_pos rfl]
    unfold ruleRead; rw [if_pos rfl]
    simp [shapeOk, sOnce, sWeekly] at hs
    obtain ⟨⟨⟨⟨rfl, rfl⟩, rfl⟩, rfl⟩, _⟩ := hs
    rfl
  · rw [if_neg ho]
    -- the pieces
    let ps : List Str := f :: Lib.itoa e :: ((if ds.isEmpty then [] else [daysTxt ds]) ++ ((if 0 < c then [sCount, Lib.itoa c] else []) ++ (if t ≠ -1 then [sUntil, dayTxt t] else [])))
    have hj : f ++ (32 :: (Lib.itoa e ++ ((if ds.isEmpty then [] else 32 :: daysTxt ds) ++
        ((if 0 < c then 32 :: (sCount ++ (32 :: Lib.itoa c)) else []) ++ (if t ≠ -1 then 32 :: (sUntil ++ (32 :: dayTxt t)) else []))))) = Lib.join ps [32] := by
      show _ = Lib.join (f :: Lib.itoa e :: _) [32]
      cases hds : ds.isEmpty <;> by_cases hc : 0 < c <;> by_cases ht : t = -1 <;> simp [hc, ht, join_cons2, Lib.join_one]
    have hm : ∀ p ∈ ps, (32 : UInt8) ∉ p := by
      intro p hp
      have hit : ∀ n : Int, 0 ≤ n → (32 : UInt8) ∉ Lib.itoa n := fun n hn hx => by have := mem_itoa hn hx; simp at this
      have hdt : (32 : UInt8) ∉ dayTxt t := fun hx => by rcases mem_dayTxt hx with h | h <;> simp at h
      simp only [ps, List.mem_cons, List.mem_append] at hp
      rcases hp with rfl | rfl | hp | hp | hp
      · exact (freq_ok hf).1
      · exact hit e (by omega)
      · split at hp
        · cases hp
        · simp at hp; subst hp; exact fun hx => (mem_days hd hx).1 rfl
      · split at hp
        · simp at hp; rcases hp with rfl | rfl
          · decide
          · exact hit c (by omega)
        · cases hp
      · split at hp
        · simp at hp; rcases hp with rfl | rfl
          · decide
          · exact hdt
        · cases hp
    have hcut : cuts 32 (Lib.join ps [32]) = ps := cuts_join (by simp [ps]) hm
    have hno : Lib.join ps [32] ≠ sOnce := by
      intro hx
      have := hcut; rw [hx] at this
      have h2 : cuts 32 sOnce = [sOnce] := by decide
      rw [h2] at this; simp [ps] at this
    rw [hj]
    unfold ruleRead
    rw [if_neg hno, hcut]
    have hne : numW 9 (Lib.itoa e) = some e := numW_itoa (by omega) (by omega) (by omega) (by omega)
    have key : splitDays ((if ds.isEmpty then [] else [daysTxt ds]) ++ ((if 0 < c then [sCount, Lib.itoa c] else []) ++ (if t ≠ -1 then [sUntil, dayTxt t] else []))) =
        (ds, (if 0 < c then [sCount, Lib.itoa c] else []) ++ (if t ≠ -1 then [sUntil, dayTxt t] else [])) := by
      cases hds : ds with
      | cons a r => rw [hds] at hd; simp [splitDays, daysOf_txt (l := a :: r) (by simp) hd]
      | nil =>
        have d1 : daysOf sCount = none := by decide
        have d2 : daysOf sUntil = none := by decide
        by_cases hc : 0 < c <;> by_cases ht : t = -1 <;> simp [hc, ht, splitDays, d1, d2]
    have htail : tailOf ((if 0 < c then [sCount, Lib.itoa c] else []) ++ (if t ≠ -1 then [sUntil, dayTxt t] else [])) = .ok (c, t) := by
      have hx : c = 0 ∨ t = -1 := by
        simp [shapeOk] at hs; exact hs.2
      by_cases hc : 0 < c
      · have ht : t = -1 := by omega
        subst ht
        have hn : numW 9 (Lib.itoa c) = some c := numW_itoa (by omega) (by omega) (by omega) (by omega)
        simp [hc, tailOf, hn]
      · have : c = 0 := by omega
        subst this
        by_cases ht : t = -1
        · subst ht; simp [tailOf]
        · have hn : dayRead (dayTxt t) = .ok t := dayRead_txt (isDay_iff.2 ⟨by omega, t1⟩)
          have hu : ¬ sUntil = sCount := by decide
          simp [ht, tailOf, hn, hu]
    simp only [ps]
    rw [if_neg (by rw [hf]; simp [ho]), hne]
    simp only [key, htail]
    rw [if_pos h]
theorem mem_ruleTxt {x : UInt8} {r : Rule} (hx : x ∈ ruleTxt r) : x ≠ 124 := by
  rintro rfl
  unfold ruleTxt at hx
  split at hx
  · cases hx
  · rename_i h
    have h : ruleErr r = 0 := by simpa using h
    obtain ⟨hf, hb, hs, hr⟩ := ruleErr_zero h
    obtain ⟨e0, e1, c0, c1, t0, t1, hd⟩ := bounds hb
    have hit : ∀ n : Int, 0 ≤ n → (124 : UInt8) ∉ Lib.itoa n := fun n hn hx => by have := mem_itoa hn hx; simp at this
    have hdt : (124 : UInt8) ∉ dayTxt r.till := fun hx => by rcases mem_dayTxt hx with h | h <;> simp at h
    split at hx
    · revert hx; decide
    · simp only [List.mem_append, List.mem_cons] at hx
      rcases hx with hx | hx | hx | hx | hx | hx
      · exact (freq_ok hf).2.1 hx
      · cases hx
      · exact hit _ (by omega) hx
      · split at hx
        · cases hx
        · rcases List.mem_cons.1 hx with hx | hx
          · cases hx
          · exact (mem_days hd hx).2 rfl
      · split at hx
        · simp only [List.mem_append, List.mem_cons] at hx
          rcases hx with hx | hx | hx | hx
          · cases hx
          · revert hx; decide
          · cases hx
          · exact hit _ (by omega) hx
        · cases hx
      · split at hx
        · simp only [List.mem_append, List.mem_cons] at hx
          rcases hx with hx | hx | hx | hx
          · cases hx
          · revert hx; decide
          · cases hx
          · exact hdt hx
        · cases hx

theorem rising_iff : ∀ {l : List Int}, rising l = true ↔ ∀ (i : Nat) (a b : Int), l[i]? = some a → l[i + 1]? = some b → a < b
  | [] => by simp [rising]
  | [x] => by simp [rising]
  | x :: y :: r => by
    have ih := rising_iff (l := y :: r)
    simp only [rising, Bool.and_eq_true, decide_eq_true_eq, ih]
    constructor
    · rintro ⟨h1, h2⟩ i a b ha hb
      match i with
      | 0 => simp at ha hb; subst ha; subst hb; exact h1
      | i + 1 => exact h2 i a b (by simpa using ha) (by simpa using hb)
    · intro h
      exact ⟨h 0 x y (by simp) (by simp), fun i a b ha hb => h (i + 1) a b (by simpa using ha) (by simpa using hb)⟩
theorem rising_no {l : List Int} {i : Nat} {a b : Int} (ha : l[i]? = some a) (hb : l[i + 1]? = some b) (h : b ≤ a) : rising l = false := by
  cases hr : rising l
  · rfl
  · have := rising_iff.1 hr i a b ha hb; omega

theorem all_take (p : Int → Bool) (l : List Int) (k : Nat) (h : k < l.length) : (l.take (k + 1)).all p = ((l.take k).all p && p l[k]) := by
  rw [List.take_succ_eq_append_getElem h, List.all_append]; simp
theorem ruleErr_4 {r : Rule} (h : freqs.contains r.freq = false) : ruleErr r = 4 := by unfold ruleErr; rw [if_pos h]
theorem ruleErr_2 {r : Rule} (h : freqs.contains r.freq = true) (h2 : boundOk r = false) : ruleErr r = 2 := by unfold ruleErr; rw [if_neg (by rw [h]; simp), if_pos h2]
theorem ruleErr_3 {r : Rule} (h : freqs.contains r.freq = true) (h2 : boundOk r = true) (h3 : shapeOk r = false) : ruleErr r = 3 := by
  unfold ruleErr; rw [if_neg (by rw [h]; simp), if_neg (by rw [h2]; simp), if_pos h3]
theorem ruleErr_8 {r : Rule} (h : freqs.contains r.freq = true) (h2 : boundOk r = true) (h3 : shapeOk r = true) (h4 : rising r.days = false) : ruleErr r = 8 := by
  unfold ruleErr; rw [if_neg (by rw [h]; simp), if_neg (by rw [h2]; simp), if_neg (by rw [h3]; simp), if_pos h4]
theorem ruleErr_0 {r : Rule} (h : freqs.contains r.freq = true) (h2 : boundOk r = true) (h3 : shapeOk r = true) (h4 : rising r.days = true) : ruleErr r = 0 := by
  unfold ruleErr; rw [if_neg (by rw [h]; simp), if_neg (by rw [h2]; simp), if_neg (by rw [h3]; simp), if_neg (by rw [h4]; simp)]
theorem rising_all {l : List Int} {n : Nat} (hn : l.length ≤ n) (h : ∀ (j : Nat) (a b : Int), j + 1 < n → l[j]? = some a → l[j + 1]? = some b → a < b) : rising l = true :=
  rising_iff.2 fun i a b ha hb => h i a b (by have := (List.getElem?_eq_some_iff.1 hb).1; omega) ha hb

theorem rising_len {hi : Int} : ∀ (l : List Int) (lo : Int), rising l = true → (∀ d ∈ l, lo ≤ d ∧ d ≤ hi) → (l.length : Int) ≤ max 0 (hi + 1 - lo)
  | [], _, _, _ => by simp; omega
  | [x], lo, _, h => by have := h x (by simp); simp; omega
  | x :: y :: r, lo, hr, h => by
    simp only [rising, Bool.and_eq_true, decide_eq_true_eq] at hr
    have hx := h x (by simp)
    have ih := rising_len (y :: r) (x + 1) hr.2 (fun d hd => by
      have h1 := (h d (by simp [hd])).2
      refine ⟨?_, h1⟩
      rcases List.mem_cons.1 hd with rfl | hd
      · omega
      · have : y < d := by
          clear h hx h1
          have hr2 := hr.2
          clear hr
          induction r generalizing y with
          | nil => cases hd
          | cons z r ihr =>
            simp only [rising, Bool.and_eq_true, decide_eq_true_eq] at hr2
            rcases List.mem_cons.1 hd with rfl | hd
            · exact hr2.1
            · have := ihr z (by simp [hd]) hd hr2.2; omega
        omega)
    have hy := (h y (by simp)).2
    simp only [List.length_cons] at *
    omega
theorem days_len {r : Rule} (h : ruleErr r = 0) : r.days.length ≤ 7 := by
  obtain ⟨_, hb, _, hr⟩ := ruleErr_zero h
  have := rising_len r.days 0 hr (bounds hb).2.2.2.2.2.2
  omega
theorem name_len {d : Int} (h0 : 0 ≤ d) (h1 : d ≤ 6) : (nameOf d).length = 2 := by
  obtain ⟨k, rfl⟩ := Int.eq_ofNat_of_zero_le h0
  have hk : k ≤ 6 := by omega
  match k, hk with
  | 0, _ | 1, _ | 2, _ | 3, _ | 4, _ | 5, _ | 6, _ => rfl
theorem join_len_le {c : UInt8} {b : Nat} : ∀ {l : List Str}, (∀ p ∈ l, p.length ≤ b) → (Lib.join l [c]).length ≤ (b + 1) * l.length
  | [], _ => by simp [Lib.join_nil]
  | [x], h => by rw [Lib.join_one]; have := h x (by simp); simp; omega
  | x :: y :: r, h => by
    have ih := join_len_le (c := c) (l := y :: r) (fun p hp => h p (by simp [hp]))
    have hx := h x (by simp)
    rw [join_cons2]
    simp only [List.length_append, List.length_cons] at *
    rw [Nat.mul_add (b + 1) (r.length + 1) 1]
    omega

theorem daysGo_snoc : ∀ {l : List Str} {ds : List Int} {w : Str} {k : Nat}, daysGo l = some ds → nameIdx w = some k → daysGo (l ++ [w]) = some (ds ++ [(k : Int)])
  | [], ds, w, k, h, hw => by unfold daysGo at h; injection h with h; subst h; simp [daysGo, hw]
  | x :: r, ds, w, k, h, hw => by
    unfold daysGo at h
    cases hx : nameIdx x with
    | none => rw [hx] at h; cases h
    | some j =>
      rw [hx] at h; simp only at h
      cases hr : daysGo r with
      | none => rw [hr] at h; cases h
      | some l =>
        rw [hr] at h; injection h with h; subst h
        have ih := daysGo_snoc hr hw
        simp only [List.cons_append, daysGo, hx, ih]
theorem daysGo_bad : ∀ {l : List Str} {w : Str} {r : List Str}, nameIdx w = none → daysGo (l ++ w :: r) = none
  | [], w, r, hw => by simp [daysGo, hw]
  | x :: l, w, r, hw => by
    have ih := daysGo_bad (l := l) (r := r) hw
    simp only [List.cons_append, daysGo, ih]
    cases nameIdx x <;> rfl
theorem daysGo_length : ∀ {l : List Str} {ds : List Int}, daysGo l = some ds → ds.length = l.length
  | [], ds, h => by unfold daysGo at h; injection h with h; subst h; rfl
  | x :: r, ds, h => by
    unfold daysGo at h
    cases hx : nameIdx x with
    | none => rw [hx] at h; cases h
    | some j =>
      rw [hx] at h; simp only at h
      cases hr : daysGo r with
      | none => rw [hr] at h; cases h
      | some l => rw [hr] at h; injection h with h; subst h; simp [daysGo_length hr]
theorem cuts_count (c : UInt8) (s : Str) : (cuts c s).length ≤ s.length + 1 := by
  rw [cuts_length c _ s (Nat.le_refl _)]; have := List.count_le_length (a := c) (l := s); omega
end Go.Proofs.YtakainogpokhgaaGreatDoor.Lam
