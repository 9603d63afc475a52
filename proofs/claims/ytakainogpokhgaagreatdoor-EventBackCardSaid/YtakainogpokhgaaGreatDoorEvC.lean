/- Walks of package event: lists and Check. -/
import Derived.Test.YtakainogpokhgaaGreatDoorFuncs
namespace Go.Proofs.YtakainogpokhgaaGreatDoor
open Go.RowKit Lam

theorem containsInt_any (l : List Int) (a : Option Addr) (n c : Nat) (x : Int) (w : World) (hn : n ≤ maxLen) (hd : Rd w 1 a n (l.map (Value.int .i64))) :
    Calls Tryz.prog 66 #[.slice a n c, .int .i64 x] w fun e w' => e = .returned (.bool (l.contains x)) ∧ w = w' := by
  unfold maxLen at hn
  have hl := hd.len
  rcases Nat.eq_zero_or_pos n with h0 | h0
  · subst h0
    have : l = [] := by simpa using hl
    subst this
    refine (Tryz.slices_Contains_int_empty a c x w).mono ?_
    rintro e w' ⟨rfl, rfl⟩
    exact ⟨rfl, rfl⟩
  · obtain ⟨b, off, rfl, hc⟩ := hd.at h0
    refine (Tryz.slices_Contains_int b off n c l x w (by omega) (by omega) (fun j hj => by rw [hc j hj]; simp [hj])).mono ?_
    rintro e w' ⟨rfl, rfl⟩
    exact ⟨by rw [List.take_of_length_le (by omega)], rfl⟩
theorem bad1_any (x : Int) (w : World) : Gives1 60 #[] w (.int .i64 x) (!isDay x) := by
  intro W _
  have T := Lib.hid (right_any x)
  show Calls Tryz.prog 60 #[.int .i64 x] W _
  generalize isDay x = q at *
  go_enter Tryz.func60, Tryz.ntmps60
  go_wp2_with fail
  refine (T.out _).mono ?_
  rintro e w' ⟨rfl, rfl⟩
  go_wp2_with fail
  go_ret
  exact ⟨rfl, Below.refl _ _⟩
theorem bad2_any (x : Int × Int) (bc : Nat) (w : World) (hc : w.cell? ⟨bc, 0, none⟩ = some (.func (.func 60) #[] #[])) :
    Gives1 64 #[.pointer (some ⟨bc, 0, none⟩)] w (.agg #[.int .i64 x.1, .int .i64 x.2]) (!isDay x.1 || !isDay x.2) := by
  intro W hb
  obtain ⟨x, y⟩ := x
  have hc1 := Below.cells hb hc
  have hb0 : Below W.heap.size W (W.alloc (.cells #[.int .i64 x, .int .i64 y] 68)) := (Below.refl _ _).alloc (Nat.le_refl _) _
  have hc2 := Below.cells hb0 hc1
  have n0 : (W.alloc (.cells #[.int .i64 x, .int .i64 y] 68)).cell? ⟨W.heap.size, 0, none⟩ = some (.int .i64 x) := new_cell _ _ _ 0
  have n1 : (W.alloc (.cells #[.int .i64 x, .int .i64 y] 68)).cell? ⟨W.heap.size, 1, none⟩ = some (.int .i64 y) := new_cell _ _ _ 1
  have T1 := fun w => bad1_any x w w (Below.refl _ _)
  have T2 := fun w => bad1_any y w w (Below.refl _ _)
  have e1 := enters_of Tryz.func60 (by kernel_rfl) rfl
  show Calls Tryz.prog 64 #[.agg #[.int .i64 x, .int .i64 y], .pointer (some ⟨bc, 0, none⟩)] W _
  have HB := Lib.hid hb0
  generalize isDay x = q1 at *
  generalize isDay y = q2 at *
  clear hb hc hb0
  cases q1
  · have H1 : ∀ w, Calls Tryz.prog 60 #[.int .i64 x] w fun e w' => e = .returned (.bool true) ∧ Below w.heap.size w w' := T1
    clear T1 T2
    go_enter Tryz.func64, Tryz.ntmps64
    go_upto_region 1 with fail
    generalize W.alloc (.cells #[.int .i64 x, .int .i64 y] 68) = W1 at *
    go_wp2_with fail
    refine (H1 _).mono ?_
    rintro e w2 ⟨rfl, hb2⟩
    go_wp2_with fail
    go_ret
    exact ⟨ret_bool (by simp), Below.next HB.out hb2⟩
  · have H1 : ∀ w, Calls Tryz.prog 60 #[.int .i64 x] w fun e w' => e = .returned (.bool false) ∧ Below w.heap.size w w' := T1
    have H2 : ∀ w, Calls Tryz.prog 60 #[.int .i64 y] w fun e w' => e = .returned (.bool !q2) ∧ Below w.heap.size w w' := T2
    clear T1 T2
    go_enter Tryz.func64, Tryz.ntmps64
    go_upto_region 1 with fail
    generalize W.alloc (.cells #[.int .i64 x, .int .i64 y] 68) = W1 at *
    go_wp2_with fail
    refine (H1 _).mono ?_
    rintro e w2 ⟨rfl, hb2⟩
    have hc3 := Below.cells hb2 hc2
    have n3 := Below.cells hb2 n1
    go_wp2_with fail
    refine (H2 _).mono ?_
    rintro e w3 ⟨rfl, hb3⟩
    go_wp2_with fail
    go_ret
    exact ⟨ret_bool (by simp), Below.next HB.out (Below.next hb2 hb3)⟩
theorem bad3_any (x : Int) (l : List Int) (be : Nat) (a : Option Addr) (n c : Nat) (hn : n ≤ maxLen) (w : World) (hc : w.cell? ⟨be, 9, none⟩ = some (.slice a n c)) (hd : Rd w 1 a n (l.map (Value.int .i64))) :
    Gives1 65 #[.pointer (some ⟨be, 0, none⟩)] w (.int .i64 x) (l.contains x) := by
  intro W hb
  have hc1 := Below.cells hb hc
  have C := containsInt_any l a n c x W hn (hd.up hb)
  show Calls Tryz.prog 65 #[.int .i64 x, .pointer (some ⟨be, 0, none⟩)] W _
  clear hb hc hd
  generalize l.contains x = q at *
  go_enter Tryz.func65, Tryz.ntmps65
  go_wp2_with fail
  refine C.mono ?_
  rintro e w' ⟨rfl, rfl⟩
  go_wp2_with fail
  go_ret
  exact ⟨rfl, Below.refl _ _⟩
end Go.Proofs.YtakainogpokhgaaGreatDoor
