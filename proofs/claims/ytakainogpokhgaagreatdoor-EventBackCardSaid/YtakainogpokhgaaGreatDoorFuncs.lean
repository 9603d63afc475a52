/- Walks of package slices: IndexFunc, ContainsFunc of numbers and of moves, at a function value that lays memory and draws. -/
import Derived.Test.YtakainogpokhgaaGreatDoorEvL
import Derived.Shelf.GgClosure.StringsIndexFunc
namespace Go.Proofs.YtakainogpokhgaaGreatDoor
open Go.RowKit Lam

/-- a function value answers so in each world above w -/
def Gives1 (g : Nat) (lb : Array Value) (w : World) (x : Value) (b : Bool) : Prop :=
  ∀ W, Below w.heap.size w W → Calls Tryz.prog g (#[x] ++ lb) W fun e w' => e = .returned (.bool b) ∧ Below W.heap.size W w'
/-- where the first lies that is one (-1: none) -/
def firstIdx {α : Type} (p : α → Bool) : List α → Nat → Int
  | [], _ => -1
  | x :: r, i => if p x then (i : Int) else firstIdx p r (i + 1)
theorem firstIdx_cons {α : Type} (p : α → Bool) (x : α) (r : List α) (i : Nat) : firstIdx p (x :: r) i = if p x then (i : Int) else firstIdx p r (i + 1) := rfl
theorem firstIdx_any {α : Type} (p : α → Bool) : ∀ (l : List α) (i : Nat), decide (0 ≤ firstIdx p l i) = l.any p
  | [], i => rfl
  | x :: r, i => by
    unfold firstIdx
    rw [List.any_cons]
    cases h : p x
    · simpa using firstIdx_any p r (i + 1)
    · simp
set_option maxRecDepth 100000 in set_option maxHeartbeats 1000000 in
theorem indexFuncInt_any (g : Nat) (lb : Array Value) (eg : ∀ args w, (callFunc g args).run Tryz.prog w = .ok (.enter g args) w) (p : Int → Bool) (l : List Int) (a : Option Addr) (n c : Nat) (w : World) (hn : n ≤ maxLen)
    (hd : Rd w 1 a n (l.map (Value.int .i64))) (hp : ∀ x ∈ l, Gives1 g lb w (.int .i64 x) (p x)) :
    Calls Tryz.prog 97 #[.slice a n c, .func (.func g) #[] lb] w fun e w' => e = .returned (.int .i64 (firstIdx p l 0)) ∧ Below w.heap.size w w' := by
  unfold maxLen at hn
  have HL := Lib.hid hd.len
  go_enter Tryz.func97, Tryz.ntmps97
  go_wp2_with fail
  go_loopw [8] (fun i wr => ∃ k : Nat, k ≤ n ∧ i = .int .i64 k ∧ Below w.heap.size w wr ∧ firstIdx p l 0 = firstIdx p (l.drop k) k) (fun i _ => n - (intOf i).toNat)
  case atStart => exact ⟨0, Nat.zero_le _, rfl, Below.refl _ _, rfl⟩
  case round =>
    obtain ⟨k, hk, rfl, hbr, hf⟩ := hrel
    by_cases hlt : k < n
    · obtain ⟨bb, off, rfl, hc⟩ := hd.at (by omega)
      have hkl : k < l.length := by rw [HL.out]; exact hlt
      have hck := Below.cells hbr (hc k hkl)
      have hg : l.drop k = l[k] :: l.drop (k + 1) := List.drop_eq_getElem_cons hkl
      have hx := hp l[k] (List.getElem_mem hkl) wr hbr
      rw [hg] at hf
      clear hc hg
      generalize l[k] = x at *
      rw [firstIdx_cons] at hf
      have i1 : (k : Int) < (n : Int) := by omega
      cases hpx : p x
      · rw [hpx] at hf hx
        simp only [Bool.false_eq_true, if_false] at hf
        have HF := Lib.hid hf
        clear hf hp hpx
        go_wp2_with (go_at_fn g; refine hx.mono ?_; rintro e W' ⟨rfl, hb'⟩)
        go_roundw
        case rel => exact ⟨k + 1, by omega, by go_num, hbr.trans (hb'.mono hbr.size), HF.out⟩
        case measure => simp [intOf]; omega
      · rw [hpx] at hf hx
        simp only [if_true] at hf
        have HF := Lib.hid hf
        clear hf hp hpx
        go_wp2_with (go_at_fn g; refine hx.mono ?_; rintro e W' ⟨rfl, hb'⟩)
        go_ret
        exact ⟨by rw [HF.out]; rfl, hbr.trans (hb'.mono hbr.size)⟩
    · have HF := Lib.hid hf
      have hdr : Hid (l.drop k = []) := Lib.hid (List.drop_eq_nil_of_le (by rw [HL.out]; omega))
      clear hf hp
      go_wp2_with fail
      go_ret
      exact ⟨by rw [HF.out, hdr.out]; rfl, hbr⟩
theorem containsFuncInt_any (g : Nat) (lb : Array Value) (eg : ∀ args w, (callFunc g args).run Tryz.prog w = .ok (.enter g args) w) (p : Int → Bool) (l : List Int) (a : Option Addr) (n c : Nat) (w : World) (hn : n ≤ maxLen)
    (hd : Rd w 1 a n (l.map (Value.int .i64))) (hp : ∀ x ∈ l, Gives1 g lb w (.int .i64 x) (p x)) :
    Calls Tryz.prog 62 #[.slice a n c, .func (.func g) #[] lb] w fun e w' => e = .returned (.bool (l.any p)) ∧ Below w.heap.size w w' := by
  have IX := indexFuncInt_any g lb eg p l a n c w hn hd hp
  have A := Lib.hid (firstIdx_any p l 0)
  clear hp hd
  generalize firstIdx p l 0 = q at *
  go_enter Tryz.func62, Tryz.ntmps62
  go_wp2_with fail
  refine IX.mono ?_
  rintro e w1 ⟨rfl, hb1⟩
  go_wp2_with fail
  go_ret
  exact ⟨ret_bool (by rw [← A.out]), hb1⟩
set_option maxRecDepth 100000 in set_option maxHeartbeats 1000000 in
theorem indexFuncMove_any (g : Nat) (lb : Array Value) (eg : ∀ args w, (callFunc g args).run Tryz.prog w = .ok (.enter g args) w) (p : Int × Int → Bool) (l : List (Int × Int)) (a : Option Addr) (n c : Nat) (w : World) (hn : n ≤ maxLen)
    (hd : Rd w 2 a n (mvC l)) (hp : ∀ x ∈ l, Gives1 g lb w (.agg #[.int .i64 x.1, .int .i64 x.2]) (p x)) :
    Calls Tryz.prog 98 #[.slice a n c, .func (.func g) #[] lb] w fun e w' => e = .returned (.int .i64 (firstIdx p l 0)) ∧ Below w.heap.size w w' := by
  unfold maxLen at hn
  have HL := Lib.hid hd.len2
  go_enter Tryz.func98, Tryz.ntmps98
  go_wp2_with fail
  go_loopw [8] (fun i wr => ∃ k : Nat, k ≤ n ∧ i = .int .i64 k ∧ Below w.heap.size w wr ∧ firstIdx p l 0 = firstIdx p (l.drop k) k) (fun i _ => n - (intOf i).toNat)
  case atStart => exact ⟨0, Nat.zero_le _, rfl, Below.refl _ _, rfl⟩
  case round =>
    obtain ⟨k, hk, rfl, hbr, hf⟩ := hrel
    by_cases hlt : k < n
    · obtain ⟨bb, off, rfl, hc⟩ := hd.at2 (by omega)
      have hkl : k < l.length := by rw [HL.out]; exact hlt
      have hck1 := Below.cells hbr (hc k hkl).1
      have hck2 := Below.cells hbr (hc k hkl).2
      have hg : l.drop k = l[k] :: l.drop (k + 1) := List.drop_eq_getElem_cons hkl
      have hx := hp l[k] (List.getElem_mem hkl) wr hbr
      rw [hg] at hf
      clear hc hg
      generalize l[k] = x at *
      rw [firstIdx_cons] at hf
      have i1 : (k : Int) < (n : Int) := by omega
      cases hpx : p x
      · rw [hpx] at hf hx
        simp only [Bool.false_eq_true, if_false] at hf
        have HF := Lib.hid hf
        clear hf hp hpx
        go_wp2_with (go_at_fn g; refine hx.mono ?_; rintro e W' ⟨rfl, hb'⟩)
        go_roundw
        case rel => exact ⟨k + 1, by omega, by go_num, hbr.trans (hb'.mono hbr.size), HF.out⟩
        case measure => simp [intOf]; omega
      · rw [hpx] at hf hx
        simp only [if_true] at hf
        have HF := Lib.hid hf
        clear hf hp hpx
        go_wp2_with (go_at_fn g; refine hx.mono ?_; rintro e W' ⟨rfl, hb'⟩)
        go_ret
        exact ⟨by rw [HF.out]; rfl, hbr.trans (hb'.mono hbr.size)⟩
    · have HF := Lib.hid hf
      have hdr : Hid (l.drop k = []) := Lib.hid (List.drop_eq_nil_of_le (by rw [HL.out]; omega))
      clear hf hp
      go_wp2_with fail
      go_ret
      exact ⟨by rw [HF.out, hdr.out]; rfl, hbr⟩
theorem containsFuncMove_any (g : Nat) (lb : Array Value) (eg : ∀ args w, (callFunc g args).run Tryz.prog w = .ok (.enter g args) w) (p : Int × Int → Bool) (l : List (Int × Int)) (a : Option Addr) (n c : Nat) (w : World) (hn : n ≤ maxLen)
    (hd : Rd w 2 a n (mvC l)) (hp : ∀ x ∈ l, Gives1 g lb w (.agg #[.int .i64 x.1, .int .i64 x.2]) (p x)) :
    Calls Tryz.prog 63 #[.slice a n c, .func (.func g) #[] lb] w fun e w' => e = .returned (.bool (l.any p)) ∧ Below w.heap.size w w' := by
  have IX := indexFuncMove_any g lb eg p l a n c w hn hd hp
  have A := Lib.hid (firstIdx_any p l 0)
  clear hp hd
  generalize firstIdx p l 0 = q at *
  go_enter Tryz.func63, Tryz.ntmps63
  go_wp2_with fail
  refine IX.mono ?_
  rintro e w1 ⟨rfl, hb1⟩
  go_wp2_with fail
  go_ret
  exact ⟨ret_bool (by rw [← A.out]), hb1⟩
end Go.Proofs.YtakainogpokhgaaGreatDoor
