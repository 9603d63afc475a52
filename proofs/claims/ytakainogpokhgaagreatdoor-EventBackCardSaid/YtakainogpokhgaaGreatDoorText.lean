/- Plain law on texts (no program in sight): pieces between one sign, joined and cut; numerals written and read. -/
import Derived.Test.YtakainogpokhgaaGreatDoorDay
import Derived.Lib.AtoiAll
import Derived.Lib.SplitLaws
import Derived.Lib.Split
import Derived.Lib.IndexBytes
import Derived.Lib.Join
namespace Go.Proofs.YtakainogpokhgaaGreatDoor.Lam
open Go

/-- pieces of a text, by a sign -/
def cuts (c : UInt8) : Str → List Str
  | [] => [[]]
  | x :: r => if x = c then [] :: cuts c r else match cuts c r with
    | h :: t => (x :: h) :: t
    | [] => [[x]]
theorem cuts_ne (c : UInt8) (s : Str) : cuts c s ≠ [] := by
  cases s with
  | nil => simp [cuts]
  | cons x r => unfold cuts; split
                · simp
                · split <;> simp
theorem cuts_none {c : UInt8} : ∀ {s : Str}, c ∉ s → cuts c s = [s]
  | [], _ => rfl
  | x :: r, h => by
    have hx : x ≠ c := fun e => h (by simp [e])
    have hr : c ∉ r := fun e => h (by simp [e])
    unfold cuts; rw [if_neg hx, cuts_none hr]
theorem cuts_app {c : UInt8} : ∀ {a : Str} (b : Str), c ∉ a → cuts c (a ++ c :: b) = a :: cuts c b
  | [], b, _ => by simp [cuts]
  | x :: r, b, h => by
    have hx : x ≠ c := fun e => h (by simp [e])
    have hr : c ∉ r := fun e => h (by simp [e])
    have ih := cuts_app b hr
    show (if x = c then [] :: cuts c (r ++ c :: b) else match cuts c (r ++ c :: b) with | h :: t => (x :: h) :: t | [] => [[x]]) = _
    rw [if_neg hx, ih]
theorem join_cons2 (c : UInt8) (x y : Str) (r : List Str) : Lib.join (x :: y :: r) [c] = x ++ c :: Lib.join (y :: r) [c] := by
  rw [Lib.join_cons, Lib.join_cons]; simp [Lib.joinTail]
theorem cuts_join {c : UInt8} : ∀ {ps : List Str}, ps ≠ [] → (∀ p ∈ ps, c ∉ p) → cuts c (Lib.join ps [c]) = ps
  | [], h, _ => absurd rfl h
  | [x], _, h => by rw [Lib.join_one]; exact cuts_none (h x (by simp))
  | x :: y :: r, _, h => by
    rw [join_cons2, cuts_app _ (h x (by simp)), cuts_join (by simp) (fun p hp => h p (by simp [hp]))]
theorem split_at {c : UInt8} : ∀ {s : Str}, c ∈ s → ∃ a b, s = a ++ c :: b ∧ c ∉ a
  | x :: r, h => by
    by_cases e : x = c
    · exact ⟨[], r, by simp [e], by simp⟩
    · obtain ⟨a, b, h1, h2⟩ := split_at (s := r) (by rcases List.mem_cons.1 h with h | h; exact absurd h.symm e; exact h)
      exact ⟨x :: a, b, by simp [h1], by simp only [List.mem_cons, not_or]; exact ⟨fun h => e h.symm, h2⟩⟩
theorem join_cuts (c : UInt8) : ∀ (n : Nat) (s : Str), s.length ≤ n → Lib.join (cuts c s) [c] = s
  | n, s, hn => by
    by_cases h : c ∈ s
    · obtain ⟨a, b, rfl, ha⟩ := split_at h
      match n with
      | 0 => simp at hn
      | n + 1 =>
        have := join_cuts c n b (by simp at hn; omega)
        rw [cuts_app b ha]
        cases hb : cuts c b with
        | nil => exact absurd hb (cuts_ne c b)
        | cons y t => rw [join_cons2, ← hb, this]
    · rw [cuts_none h, Lib.join_one]
theorem cuts_mem {c : UInt8} : ∀ (n : Nat) (s : Str), s.length ≤ n → ∀ p ∈ cuts c s, c ∉ p
  | n, s, hn, p, hp => by
    by_cases h : c ∈ s
    · obtain ⟨a, b, rfl, ha⟩ := split_at h
      match n with
      | 0 => simp at hn
      | n + 1 =>
        rw [cuts_app b ha] at hp
        rcases List.mem_cons.1 hp with rfl | hp
        · exact ha
        · exact cuts_mem n b (by simp at hn; omega) p hp
    · rw [cuts_none h] at hp; simp at hp; subst hp; exact h

theorem index_none {c : UInt8} {s : Str} (h : c ∉ s) : Lib.index s [c] = -1 := by
  rw [Lib.index_one]
  induction s with
  | nil => rfl
  | cons x r ih =>
    have hx : ¬ x = c := fun e => h (by simp [e])
    have hr : c ∉ r := fun e => h (by simp [e])
    unfold Lib.indexByte; simp [hx, ih hr]
theorem index_app {c : UInt8} {a : Str} (b : Str) (h : c ∉ a) : Lib.index (a ++ c :: b) [c] = a.length := by
  rw [Lib.index_one]
  induction a with
  | nil => simp [Lib.indexByte]
  | cons x r ih =>
    have hx : ¬ x = c := fun e => h (by simp [e])
    have hr : c ∉ r := fun e => h (by simp [e])
    have e := ih hr
    show Lib.indexByte (x :: (r ++ c :: b)) c = _
    unfold Lib.indexByte; rw [e]; simp [hx]
    try omega
theorem splitK_cuts (c : UInt8) : ∀ (n : Nat) (s : Str), s.length ≤ n → Lib.splitK [c] 0 (s.count c) s = cuts c s
  | n, s, hn => by
    by_cases h : c ∈ s
    · obtain ⟨a, b, rfl, ha⟩ := split_at h
      have hc : (a ++ c :: b).count c = b.count c + 1 := by rw [List.count_append, List.count_eq_zero.2 ha, List.count_cons_self]; omega
      match n with
      | 0 => simp at hn
      | n + 1 =>
        have ih := splitK_cuts c n b (by simp at hn; omega)
        rw [hc, cuts_app b ha]
        unfold Lib.splitK
        rw [index_app b ha]
        have hne : ((a.length : Int) == -1) = false := by rw [beq_eq_false_iff_ne]; omega
        simp [hne, ih]
    · rw [List.count_eq_zero.2 h, cuts_none h]; rfl
theorem splitB_cuts (s : ByteArray) (c : UInt8) :
    (Lib.splitB ⟨#[c]⟩ 0 (Lib.countB s ⟨#[c]⟩) s).map (·.data.toList) = cuts c s.data.toList ∧ Lib.countB s ⟨#[c]⟩ = s.data.toList.count c := by
  have h : Lib.countB s ⟨#[c]⟩ = s.data.toList.count c := Lib.count_one c s.data.toList
  rw [Lib.splitB_data, h]
  exact ⟨splitK_cuts c _ _ (Nat.le_refl _), rfl⟩
theorem cuts_length (c : UInt8) : ∀ (n : Nat) (s : Str), s.length ≤ n → (cuts c s).length = s.count c + 1
  | n, s, hn => by
    by_cases h : c ∈ s
    · obtain ⟨a, b, rfl, ha⟩ := split_at h
      match n with
      | 0 => simp at hn
      | n + 1 =>
        rw [cuts_app b ha, List.length_cons, cuts_length c n b (by simp at hn; omega), List.count_append, List.count_eq_zero.2 ha, List.count_cons_self]; omega
    · rw [cuts_none h, List.count_eq_zero.2 h]; rfl

/-! numerals -/
theorem mem_dec {x : UInt8} : ∀ (k : Nat), x ∈ Lib.decDigits k → 48 ≤ x.toNat ∧ x.toNat ≤ 57 := by
  intro k
  induction k using Nat.strongRecOn with
  | _ k ih =>
    intro h
    unfold Lib.decDigits at h
    split at h
    · rename_i hk; simp at h; subst h; simp; omega
    · rename_i hk
      rcases List.mem_append.1 h with h | h
      · exact ih (k / 10) (by omega) h
      · simp at h; subst h; simp; omega
theorem dec_length_le {k j : Nat} (h : k < 10 ^ (j + 1)) : (Lib.decDigits k).length ≤ j + 1 := by
  rw [Lib.decDigits_length]
  revert k
  induction j with
  | zero => intro k hk; rw [Lib.nDigits_small (by simpa using hk)]; exact Nat.le_refl _
  | succ j ih =>
    intro k hk
    by_cases c : k < 10
    · rw [Lib.nDigits_small c]; omega
    · rw [Lib.nDigits_big c]
      have := ih (k := k / 10) (by rw [Nat.pow_succ] at hk; omega)
      omega
theorem dec_lt {k j : Nat} (h : (Lib.decDigits k).length ≤ j) : k < 10 ^ j := by
  rw [Lib.decDigits_length] at h
  exact Nat.lt_of_lt_of_le (Lib.lt_pow_nDigits k) (Nat.pow_le_pow_right (by omega) h)
theorem dec_ne (k : Nat) : Lib.decDigits k ≠ [] := by
  intro h; have := Lib.decDigits_length k; rw [h] at this; have := Lib.nDigits_pos k; simp at *; omega
theorem parse_snoc (c : UInt8) : ∀ (l : Str) (acc u : Nat), Lib.parseUint10 acc l = .ok u → Lib.parseUint10 acc (l ++ [c]) = Lib.parseUint10 u [c]
  | [], acc, u, h => by unfold Lib.parseUint10 at h; injection h with h; subst h; rfl
  | x :: r, acc, u, h => by
    rw [List.cons_append]
    unfold Lib.parseUint10 at h ⊢
    split at h
    · rename_i h1
      split at h
      · cases h
      · rename_i h2
        split at h
        · cases h
        · rename_i h3
          rw [if_pos h1, if_neg h2, if_neg h3]
          exact parse_snoc c r _ u h
    · cases h
theorem parse_dec (k : Nat) (hk : k < 9223372036854775808) : Lib.parseUint10 0 (Lib.decDigits k) = .ok k := by
  induction k using Nat.strongRecOn with
  | _ k ih =>
    unfold Lib.decDigits
    split
    · rename_i h
      unfold Lib.parseUint10
      have e : (UInt8.ofNat (48 + k)).toNat = 48 + k := by simp; omega
      rw [e, if_pos (by omega), if_neg (by omega), if_neg (by omega)]
      unfold Lib.parseUint10
      congr 1; omega
    · rename_i h
      rw [parse_snoc _ _ _ _ (ih (k / 10) (by omega) (by omega))]
      unfold Lib.parseUint10
      have e : (UInt8.ofNat (48 + k % 10)).toNat = 48 + k % 10 := by simp; omega
      rw [e, if_pos (by omega), if_neg (by omega), if_neg (by omega)]
      unfold Lib.parseUint10
      congr 1; omega
theorem atoi_itoa {n : Int} (h0 : 0 ≤ n) (h1 : n < 9223372036854775808) : Lib.atoiAll (Lib.itoa n) = .ok n := by
  obtain ⟨k, rfl⟩ := Int.eq_ofNat_of_zero_le h0
  have hi : Lib.itoa (k : Int) = Lib.decDigits k := by unfold Lib.itoa; rw [if_neg (by omega)]; simp
  rw [hi]
  cases hd : Lib.decDigits k with
  | nil => exact absurd hd (dec_ne k)
  | cons c r =>
    have hm := mem_dec (x := c) k (by rw [hd]; simp)
    unfold Lib.atoiAll
    have n1 : ¬ c.toNat = 45 := by omega
    have n2 : ¬ (c.toNat = 43 ∨ c.toNat = 45) := by omega
    have hp : Lib.parseMag (c :: r) = .ok k := by
      unfold Lib.parseMag; rw [if_neg (by simp), ← hd, parse_dec k (by omega)]
    simp only
    rw [if_neg n2, hp]
    simp only [n1]
    simp; omega
/-- a number of a word of so many signs at most: none: it is none -/
def numW (most : Nat) (s : Str) : Option Int :=
  match Lib.atoiAll s with
  | .ok n => if s.length ≤ most ∧ 0 ≤ n ∧ Lib.itoa n = s then some n else none
  | _ => none
theorem itoa_nat (k : Nat) : Lib.itoa (k : Int) = Lib.decDigits k := by unfold Lib.itoa; rw [if_neg (by omega)]; simp
theorem numW_itoa {most : Nat} {n : Int} (h0 : 0 ≤ n) (h1 : n < 10 ^ most) (hm : 1 ≤ most) (hm' : most ≤ 18) : numW most (Lib.itoa n) = some n := by
  obtain ⟨j, rfl⟩ : ∃ j, most = j + 1 := ⟨most - 1, by omega⟩
  obtain ⟨k, rfl⟩ := Int.eq_ofNat_of_zero_le h0
  have hk : k < 10 ^ (j + 1) := by exact_mod_cast h1
  have hb : (10 : Nat) ^ (j + 1) ≤ 10 ^ 18 := Nat.pow_le_pow_right (by omega) hm'
  unfold numW
  rw [atoi_itoa h0 (by omega)]
  simp only
  rw [if_pos]
  exact ⟨by rw [itoa_nat]; exact dec_length_le hk, h0, trivial⟩
theorem numW_some {most : Nat} {s : Str} {n : Int} (h : numW most s = some n) : 0 ≤ n ∧ s = Lib.itoa n ∧ s.length ≤ most ∧ Lib.atoiAll s = .ok n := by
  unfold numW at h
  split at h
  · rename_i m hm
    split at h
    · rename_i hc; injection h with h; subst h; exact ⟨hc.2.1, hc.2.2.symm, hc.1, hm⟩
    · cases h
  · cases h
theorem numW_lt {most : Nat} {s : Str} {n : Int} (h : numW most s = some n) : n < 10 ^ most := by
  obtain ⟨h0, rfl, hl, _⟩ := numW_some h
  obtain ⟨k, rfl⟩ := Int.eq_ofNat_of_zero_le h0
  rw [itoa_nat] at hl
  exact_mod_cast dec_lt hl
theorem itoa_inj {a b : Int} (ha : 0 ≤ a) (hb : 0 ≤ b) (ha' : a < 9223372036854775808) (hb' : b < 9223372036854775808) (h : Lib.itoa a = Lib.itoa b) : a = b := by
  have := atoi_itoa ha ha'; rw [h, atoi_itoa hb hb'] at this; injection this with this; exact this.symm
theorem mem_itoa {x : UInt8} {n : Int} (h0 : 0 ≤ n) (h : x ∈ Lib.itoa n) : 48 ≤ x.toNat ∧ x.toNat ≤ 57 := by
  obtain ⟨k, rfl⟩ := Int.eq_ofNat_of_zero_le h0
  rw [itoa_nat] at h; exact mem_dec k h
theorem mem_two {x : UInt8} {n : Int} (h0 : 0 ≤ n) (h : x ∈ two n) : 48 ≤ x.toNat ∧ x.toNat ≤ 57 := by
  unfold two at h
  split at h
  · rcases List.mem_cons.1 h with rfl | h
    · decide
    · exact mem_itoa h0 h
  · exact mem_itoa h0 h
theorem mem_dayTxt {x : UInt8} {n : Int} (h : x ∈ dayTxt n) : x = 45 ∨ (48 ≤ x.toNat ∧ x.toNat ≤ 57) := by
  unfold dayTxt at h
  split at h
  · rename_i hd
    have ⟨h0, h1⟩ := isDay_iff.1 hd
    have D := dateOf_ok n h0 h1
    have y0 := D.y0; have m0 := D.m0; have d0 := D.d0
    simp only [List.mem_append, List.mem_cons] at h
    rcases h with h | h | h | h | h
    · exact .inr (mem_itoa (by omega) h)
    · exact .inl h
    · exact .inr (mem_two (by omega) h)
    · exact .inl h
    · exact .inr (mem_two (by omega) h)
  · simp at h

theorem indexByte_none {c : UInt8} {s : Str} (h : c ∉ s) : Lib.indexByte s c = -1 := by rw [← Lib.index_one]; exact index_none h
theorem indexByte_app {c : UInt8} {a : Str} (b : Str) (h : c ∉ a) : Lib.indexByte (a ++ c :: b) c = a.length := by rw [← Lib.index_one]; exact index_app b h
/-- a text at its first sign: where it stands, the piece ahead, and what is behind -/
theorem cut_bytes {c : UInt8} (t : ByteArray) (h : c ∈ t.data.toList) : ∃ k : Nat, k < t.size ∧ Lib.indexByte t.data.toList c = (k : Int) ∧
    cuts c t.data.toList = (t.extract 0 k).data.toList :: cuts c (t.extract (k + 1) t.size).data.toList := by
  obtain ⟨a, b, e, ha⟩ := split_at h
  have hsz : t.size = a.length + (b.length + 1) := by
    have : t.data.toList.length = t.size := by rw [Array.length_toList]; rfl
    rw [← this, e]; simp
  have e1 : (t.extract 0 a.length).data.toList = a := by rw [Lib.extract_data, e]; simp
  have e2 : (t.extract (a.length + 1) t.size).data.toList = b := by
    rw [Lib.extract_data, e, List.take_of_length_le (by simp; omega)]
    rw [show a ++ c :: b = (a ++ [c]) ++ b by simp, List.drop_append_of_le_length (by simp)]
    simp
  exact ⟨a.length, by omega, by rw [e]; exact indexByte_app b ha, by rw [e1, e2, e]; exact cuts_app b ha⟩
end Go.Proofs.YtakainogpokhgaaGreatDoor.Lam
