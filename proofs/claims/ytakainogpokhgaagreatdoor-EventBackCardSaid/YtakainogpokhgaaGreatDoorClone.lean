/- slices.Clone of numbers and of moves: a row of its own. -/
import Derived.Test.YtakainogpokhgaaGreatDoorEvX
namespace Go.Proofs.YtakainogpokhgaaGreatDoor
open Go.RowKit Lam

/-- what Clone answers: a slice of a row of the call's own -/
def ClonePost (sz : Nat) (e : TypeId) (n : Nat) (xs : List Value) (w : World) (en : Ending) (w' : World) : Prop :=
  ∃ v, en = .returned v ∧ w'.ownsRow w.heap.size e sz v n xs ∧ Below w.heap.size w w'
theorem mv_info : (Tryz.prog.info? 68).map (fun i => (i.zero, i.size, i.bytes)) = some (some (.agg #[.int .i64 0, .int .i64 0]), 2, 16) := by kernel_rfl
theorem mvC_one (l : List (Int × Int)) : ∀ u ∈ mvC l, u.oneCell' = true := by
  intro u hu
  obtain ⟨m, _, hm⟩ := List.mem_flatMap.1 hu
  simp only [List.mem_cons, List.not_mem_nil, or_false] at hm
  rcases hm with rfl | rfl <;> rfl
theorem ints_one (l : List Int) : ∀ u ∈ l.map (Value.int .i64), u.oneCell' = true := by
  intro u hu
  obtain ⟨m, _, rfl⟩ := List.mem_map.1 hu
  rfl
set_option maxHeartbeats 2000000 in set_option maxRecDepth 100000 in
theorem cloneInt_any (a : Option Addr) (n c : Nat) (xs : List Value) (w : World) (hn : n ≤ 10000000) (hx : ∀ u ∈ xs, u.oneCell' = true) (hd : Rd w 1 a n xs) :
    Calls Tryz.prog 74 #[.slice a n c] w (ClonePost 1 3 n xs w) := by
  have q : ∀ (w : World) (a : Option Addr) (n c n' c' : Nat), (binOp .eql 22 (.slice a n c) (.slice none n' c')).run Tryz.prog w = .ok (.bool a.isNone) w := fun w a n c n' c' => Lib.run_eql_slice_nil w _ _ a n c n' c' Tryz.underlying22
  obtain ⟨i0, hi, hz0, hz1, hz2⟩ := info_parts int_info
  have hl := hd.1
  cases a with
  | none =>
    obtain rfl : n = 0 := by
      rcases Nat.eq_zero_or_pos n with h | h
      · exact h
      · obtain ⟨b, off, e, _⟩ := hd.2 h; cases e
    obtain rfl : xs = [] := by simpa using hl
    clear hd hx hl
    go_enter Tryz.func74, Tryz.ntmps74
    go_wp2
    go_ret
    exact ⟨_, rfl, World.ownsRow_nil _ _ _ _, Below.refl _ _⟩
  | some p =>
    have hcell : ∀ j u, xs[j]? = some u → (w.alloc (.cells #[] 3)).cell? (p.add j) = some u := by
      intro j u hj
      have hj' := (List.getElem?_eq_some_iff.1 hj).1
      obtain ⟨b, off, e, hc⟩ := hd.2 (by omega)
      injection e with e; subst e
      rw [Addr.add_lit]
      exact Lib.cell?_alloc_some _ (hc j u hj)
    have HC := Lib.hid hcell
    have HX := Lib.hid hx
    have HL := Lib.hid hl
    clear hd hcell hx hl
    go_enter Tryz.func74, Tryz.ntmps74
    go_wp2_with (at_builtin; refine wpList_append_own _ rfl _ _ 22 rfl w.heap.size 3 i0 (.int .i64 0) 1 8 Tryz.underlying22 hi hz0 hz1 hz2 rfl (by decide) _ _ _ rfl (World.ownsRow_made w #[] 0 (Nat.le_refl _) (Nat.zero_le _) rfl) p n c xs rfl ?qc1 ?qc2 ?qc3 ?qc4 ?qc5 ?qc6 ?_)
    case qc1 => first | exact HL.out | (rw [HL.out]; simp)
    case qc2 => exact HC.out
    case qc3 => exact HX.out
    case qc4 => simp only [maxLen]; omega
    case qc5 => omega
    case qc6 => simp
    intro v' w1 hown hgrow hnil
    go_wp2
    go_ret
    refine ⟨v', rfl, by simpa using hown, ?_⟩
    exact ((Below.refl _ w).alloc (Nat.le_refl _) _).grown hgrow (by simp) (by intro k hk; simp [Value.ownBlock] at hk; omega)
set_option maxHeartbeats 2000000 in set_option maxRecDepth 100000 in
theorem cloneMove_any (a : Option Addr) (n c : Nat) (xs : List Value) (w : World) (hn : n ≤ 10000000) (hx : ∀ u ∈ xs, u.oneCell' = true) (hd : Rd w 2 a n xs) :
    Calls Tryz.prog 75 #[.slice a n c] w (ClonePost 2 68 n xs w) := by
  have q : ∀ (w : World) (a : Option Addr) (n c n' c' : Nat), (binOp .eql 25 (.slice a n c) (.slice none n' c')).run Tryz.prog w = .ok (.bool a.isNone) w := fun w a n c n' c' => Lib.run_eql_slice_nil w _ _ a n c n' c' Tryz.underlying25
  obtain ⟨i0, hi, hz0, hz1, hz2⟩ := info_parts mv_info
  have hl := hd.1
  cases a with
  | none =>
    obtain rfl : n = 0 := by
      rcases Nat.eq_zero_or_pos n with h | h
      · exact h
      · obtain ⟨b, off, e, _⟩ := hd.2 h; cases e
    obtain rfl : xs = [] := by simpa using hl
    clear hd hx hl
    go_enter Tryz.func75, Tryz.ntmps75
    go_wp2
    go_ret
    exact ⟨_, rfl, World.ownsRow_nil _ _ _ _, Below.refl _ _⟩
  | some p =>
    have hcell : ∀ j u, xs[j]? = some u → (w.alloc (.cells #[] 68)).cell? (p.add j) = some u := by
      intro j u hj
      have hj' := (List.getElem?_eq_some_iff.1 hj).1
      obtain ⟨b, off, e, hc⟩ := hd.2 (by omega)
      injection e with e; subst e
      rw [Addr.add_lit]
      exact Lib.cell?_alloc_some _ (hc j u hj)
    have HC := Lib.hid hcell
    have HX := Lib.hid hx
    have HL := Lib.hid hl
    clear hd hcell hx hl
    go_enter Tryz.func75, Tryz.ntmps75
    go_wp2_with (at_builtin; refine wpList_append_own _ rfl _ _ 25 rfl w.heap.size 68 i0 (.agg #[.int .i64 0, .int .i64 0]) 2 16 Tryz.underlying25 hi hz0 hz1 hz2 rfl (by decide) _ _ _ rfl (World.ownsRow_made w #[] 0 (Nat.le_refl _) (Nat.zero_le _) rfl) p n c xs rfl ?qc1 ?qc2 ?qc3 ?qc4 ?qc5 ?qc6 ?_)
    case qc1 => first | exact HL.out | (rw [HL.out]; simp)
    case qc2 => exact HC.out
    case qc3 => exact HX.out
    case qc4 => simp only [maxLen]; omega
    case qc5 => omega
    case qc6 => simp
    intro v' w1 hown hgrow hnil
    go_wp2
    go_ret
    refine ⟨v', rfl, by simpa using hown, ?_⟩
    exact ((Below.refl _ w).alloc (Nat.le_refl _) _).grown hgrow (by simp) (by intro k hk; simp [Value.ownBlock] at hk; omega)
end Go.Proofs.YtakainogpokhgaaGreatDoor
