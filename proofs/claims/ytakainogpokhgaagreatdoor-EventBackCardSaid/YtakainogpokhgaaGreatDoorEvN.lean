/- Walks of package event: names and titles. -/
import Derived.Test.YtakainogpokhgaaGreatDoorRuleS
import Derived.Test.YtakainogpokhgaaGreatDoorEvent
import Derived.Shelf.Strings.SlTrimAscii
namespace Go.Proofs.YtakainogpokhgaaGreatDoor
open Go.RowKit Lam

def alnum : List UInt8 := [97, 98, 99, 100, 101, 102, 103, 104, 105, 106, 107, 108, 109, 110, 111, 112, 113, 114, 115, 116, 117, 118, 119, 120, 121, 122, 48, 49, 50, 51, 52, 53, 54, 55, 56, 57]
theorem alnum_ch : ∀ k : Fin 256, alnum.contains (UInt8.ofNat k.val) = nameCh (UInt8.ofNat k.val) := by decide +kernel
theorem alnum_ch' (c : UInt8) : alnum.contains c = nameCh c := by
  have := alnum_ch ⟨c.toNat, c.toNat_lt⟩
  simpa using this
theorem dropWhile_nil {α : Type} (p : α → Bool) : ∀ (l : List α), (l.dropWhile p).isEmpty = l.all p
  | [] => rfl
  | x :: r => by
    rw [List.dropWhile_cons, List.all_cons]
    cases p x
    · simp
    · simp [dropWhile_nil p r]
theorem trim_all (l : List UInt8) : (Lib.trimS l alnum == []) = l.all nameCh := by
  have h0 : ∀ m : List UInt8, (m == []) = m.isEmpty := by intro m; cases m <;> rfl
  have hf : (alnum.contains ·) = nameCh := funext alnum_ch'
  rw [h0]
  unfold Lib.trimS Lib.trimLeftS Lib.trimRightS
  rw [hf, dropWhile_nil, List.all_reverse]
  cases h : l.all nameCh
  · have h1 : (l.reverse.dropWhile nameCh).isEmpty = false := by rw [dropWhile_nil, List.all_reverse, h]
    cases hd : l.reverse.dropWhile nameCh with
    | nil => rw [hd] at h1; cases h1
    | cons x r =>
      have := List.head_dropWhile_not nameCh (l := l.reverse) (by rw [hd]; simp)
      simp only [hd, List.head_cons] at this
      simp [this]
  · have h1 : (l.reverse.dropWhile nameCh).isEmpty = true := by rw [dropWhile_nil, List.all_reverse, h]
    rw [List.isEmpty_iff.1 h1]; rfl
theorem trim_any (s : ByteArray) (hs : s.size ≤ 1000000) (w : World) :
    Calls Tryz.prog 52 #[.string s, .string ⟨#[97, 98, 99, 100, 101, 102, 103, 104, 105, 106, 107, 108, 109, 110, 111, 112, 113, 114, 115, 116, 117, 118, 119, 120, 121, 122, 48, 49, 50, 51, 52, 53, 54, 55, 56, 57]⟩] w fun e w' =>
      e = .returned (.string (B (Lib.trimS s.data.toList alnum))) ∧ Below w.heap.size w w' :=
  Any.strings_Trim_laid Tryz.lays160 (by kernel_rfl) s _ w (by omega) (by decide) (ascii_of_all (by decide))
theorem name_any (s : ByteArray) (w : World) : Calls Tryz.prog 26 #[.string s] w fun e w' => e = .returned (.bool (isName s.data.toList)) ∧ Below w.heap.size w w' := by
  have LN := len_data s
  by_cases h0 : s.data.toList = []
  · have T : Hid (isName s.data.toList = false) := Lib.hid (by rw [h0]; rfl)
    have h1 : (s.toList == []) = true := by rw [Lib.toList_data, h0]; rfl
    have h2 : s.toList = [] := by rw [Lib.toList_data, h0]
    clear h0 LN
    go_enter Tryz.func26, Tryz.ntmps26
    go_wp2_with fail
    go_ret
    exact ⟨ret_bool (by rw [T.out]), Below.refl _ _⟩
  have h1 : (s.toList == []) = false := by rw [Lib.toList_data, beq_eq_false_iff_ne]; exact h0
  have h2 : ¬ s.toList = [] := by rw [Lib.toList_data]; exact h0
  by_cases h3 : s.size ≤ 12
  case neg =>
    have T : Hid (isName s.data.toList = false) := Lib.hid (by simp [isName, h3])
    clear h0 LN
    go_enter Tryz.func26, Tryz.ntmps26
    go_wp2_with fail
    go_ret
    exact ⟨ret_bool (by rw [T.out]), Below.refl _ _⟩
  case pos =>
    have T : Hid (isName s.data.toList = (Lib.trimS s.data.toList alnum == [])) := Lib.hid (by
      rw [trim_all]; unfold isName
      have : s.data.toList.isEmpty = false := by rw [List.isEmpty_eq_false_iff]; exact h0
      rw [this, LN]; simp [h3])
    have TR := trim_any s (by omega)
    generalize Lib.trimS s.data.toList alnum = q at *
    clear h0 LN
    go_enter Tryz.func26, Tryz.ntmps26
    go_wp2_with fail
    refine (TR _).mono ?_
    rintro e w1 ⟨rfl, hb1⟩
    go_wp2_with fail
    go_ret
    exact ⟨ret_bool (by rw [T.out]; cases q <;> rfl), hb1⟩

/-- is a sign none of a title? -/
def noTitle (r : Nat) : Bool := decide (r < 32) || decide (126 < r) || decide (r = 124)
theorem decode_lo (s : ByteArray) (i : Nat) (h : i < s.size) (hb : s[i].toNat < 128) : Utf8.decode s i = (s[i].toNat, 1) := by
  have e : s.get! (i + 0) = s[i] := by rw [Nat.add_zero]; exact getElem!_pos s.data i h
  unfold Utf8.decode
  simp only [e]
  rw [if_pos hb]
theorem decode_hi (s : ByteArray) (i : Nat) (h : i < s.size) (hb : ¬ s[i].toNat < 128) : 128 ≤ (Utf8.decode s i).1 := by
  have e : s.get! (i + 0) = s[i] := by rw [Nat.add_zero]; exact getElem!_pos s.data i h
  unfold Utf8.decode
  simp only [e]
  rw [if_neg hb]
  have hr : 128 ≤ Utf8.runeError := by decide
  split
  · split
    · rename_i hc; exact hc
    · exact hr
  · split
    · split
      · rename_i hc; simp at hc; simp; omega
      · exact hr
    · split
      · split
        · rename_i hc; simp at hc; simp; omega
        · exact hr
      · exact hr
theorem noTitle_ch (c : UInt8) : noTitle c.toNat = !titleCh c := by
  unfold noTitle titleCh
  have : (c = 124) ↔ c.toNat = 124 := by
    constructor
    · rintro rfl; rfl
    · intro h; exact UInt8.toNat.inj h
  have h124 : decide (c ≠ 124) = decide (c.toNat ≠ 124) := by simp [this]
  rw [h124, Bool.eq_iff_iff]
  simp
theorem title_idx (s : ByteArray) : ∀ (f pos : Nat), s.size ≤ pos + f → decide (0 ≤ Lib.idxFuncFrom noTitle true s f pos) = !(s.data.toList.drop pos).all titleCh
  | 0, pos, h => by
    rw [Lib.idxFuncFrom_end _ _ _ _ _ (by omega), List.drop_eq_nil_of_le (by rw [len_data]; omega)]; rfl
  | f + 1, pos, h => by
    by_cases hp : pos < s.size
    · unfold Lib.idxFuncFrom
      rw [if_pos hp, drop_bytes s pos hp, List.all_cons]
      by_cases hb : s[pos].toNat < 128
      · rw [decode_lo s pos hp hb]
        simp only
        rw [noTitle_ch]
        cases ht : titleCh s[pos]
        · simp
        · have ih := title_idx s f (pos + 1) (by omega)
          simp [ih]
      · have h1 := decode_hi s pos hp hb
        have h2 : noTitle (Utf8.decode s pos).1 = true := by unfold noTitle; simp; omega
        have h3 : titleCh s[pos] = false := by unfold titleCh; simp; omega
        rw [if_pos h2, h3]
        simp
    · rw [Lib.idxFuncFrom_end _ _ _ _ _ hp, List.drop_eq_nil_of_le (by rw [len_data]; omega)]; rfl
theorem bad_any (x : Nat) (hx : x ≤ 1114111) (W : World) : Calls Tryz.prog 54 #[.int .i32 (x : Int)] W fun e w' => e = .returned (.bool (noTitle x)) ∧ ∃ q, w' = W.drewN q := by
  go_enter Tryz.func54, Tryz.ntmps54
  go_wp2_with fail
  all_goals go_ret
  all_goals refine ⟨ret_bool ?_, 0, rfl⟩
  all_goals unfold noTitle
  all_goals rw [Bool.eq_iff_iff]
  all_goals simp only [Bool.or_eq_true, decide_eq_true_eq, beq_iff_eq, true_iff]
  all_goals omega
theorem title_any (s : ByteArray) (hs : s.size ≤ 1000000000) (w : World) : Calls Tryz.prog 27 #[.string s] w fun e w' => e = .returned (.bool (isTitle s.data.toList)) ∧ Below w.heap.size w w' := by
  have LN := len_data s
  by_cases h3 : s.size ≤ 40
  case neg =>
    have T : Hid (isTitle s.data.toList = false) := Lib.hid (by simp [isTitle, h3])
    clear LN
    go_enter Tryz.func27, Tryz.ntmps27
    go_wp2_with fail
    go_ret
    exact ⟨ret_bool (by rw [T.out]), Below.refl _ _⟩
  case pos =>
    have T : Hid (isTitle s.data.toList = !decide (0 ≤ Lib.idxFunc noTitle true s)) := Lib.hid (by
      unfold Lib.idxFunc; rw [title_idx s s.size 0 (by omega)]; unfold isTitle; rw [LN]; simp [h3])
    have CF := fun W => Tryz.strings_ContainsFunc_runes 54 #[] (enters_of Tryz.func54 (by kernel_rfl) rfl) noTitle s W (fun W' x hx _ => bad_any x hx W')
    generalize Lib.idxFunc noTitle true s = q at *
    clear LN
    go_enter Tryz.func27, Tryz.ntmps27
    go_wp2_with fail
    refine (CF _).mono ?_
    rintro e w1 ⟨rfl, hb1⟩
    go_wp2_with fail
    go_ret
    exact ⟨ret_bool (by rw [T.out]), hb1⟩
end Go.Proofs.YtakainogpokhgaaGreatDoor
