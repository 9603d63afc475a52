/- Walks of package rule: the tail of a rule (count, or until). -/
import Derived.Test.YtakainogpokhgaaGreatDoorRuleD
namespace Go.Proofs.YtakainogpokhgaaGreatDoor
open Go.RowKit Lam

/-- a world that differs from another's blocks in one block alone (and in new ones) -/
structure Besides (br : Nat) (w w' : World) : Prop where
  os : w'.os = w.os
  tape : w'.tape = w.tape
  output : w'.output = w.output
  size : w.heap.size ≤ w'.heap.size
  block : ∀ k, k < w.heap.size → k ≠ br → w'.heap[k]? = w.heap[k]?
theorem Besides.of_below {br : Nat} {w w' : World} (h : Below w.heap.size w w') : Besides br w w' := ⟨h.os, h.tape, h.output, h.size, fun k hk _ => h.block k hk⟩
theorem Besides.set {br : Nat} {w w' : World} (h : Besides br w w') (j : Nat) (v : Value) : Besides br w (w'.setCell ⟨br, j, none⟩ v) :=
  ⟨h.os, h.tape, h.output, by simp [World.setCell]; exact h.size, fun k hk hn => (Below.heap_setCell _ _ _ _ (by simpa using hn)).trans (h.block k hk hn)⟩
theorem Besides.below {br N : Nat} {w0 w w' : World} (h0 : Below N w0 w) (h : Besides br w w') (hn : N ≤ br) (hN : N ≤ w.heap.size) : Below N w0 w' :=
  ⟨h.os.trans h0.os, h.tape.trans h0.tape, h.output.trans h0.output, Nat.le_trans h0.size h.size, fun k hk => (h.block k (by omega) (by omega)).trans (h0.block k hk)⟩
theorem blk_cells {W : World} {b : Nat} {cs : Array Value} {t : TypeId} (h : W.heap[b]? = some (.cells cs t (0, 0))) (j : Nat) : W.cell? ⟨b, j, none⟩ = cs[j]? := by
  show (match W.heap[b]? with | some (.cells c _ _) => if (none : Option Nat).isSome then none else c[j]? | _ => none) = cs[j]?
  rw [h]; rfl
theorem blk_frozens {W : World} {b : Nat} {cs : Array Value} {t : TypeId} (h : W.heap[b]? = some (.cells cs t (0, 0))) (j : Nat) : W.frozen? ⟨b, j, none⟩ = false := by
  show (match W.heap[b]? with | some (.cells _ _ (lo, hi)) => lo ≤ j && j < hi | _ => false) = false
  rw [h]; simp
theorem blk_sets {W : World} {b : Nat} {cs : Array Value} {t : TypeId} (h : W.heap[b]? = some (.cells cs t (0, 0))) (j : Nat) (u : Value) :
    (W.setCell ⟨b, j, none⟩ u).heap[b]? = some (.cells (cs.setIfInBounds j u) t (0, 0)) := by
  simp [World.setCell, Array.getElem?_modify, h]
def TailPost (A : Nat → Addr) (t : Got (Int × Int)) (br : Nat) (f e d : Value) (w : World) (en : Ending) (w' : World) : Prop :=
  Besides br w w' ∧ match t with
  | .ok (k, u) => en = .returned (.tuple #[.bool true, .nilIface]) ∧ w'.heap[br]? = some (.cells #[f, e, d, .int .i64 k, .int .i64 u] 24 (0, 0))
  | .err c => c ≠ 0 ∧ (en = .returned (.tuple #[.bool true, Er (A c)]) ∨ (c = 1 ∧ en = .returned (.tuple #[.bool false, .nilIface])))

theorem dayRead_pos {s : Str} {c : Nat} (h : dayRead s = .err c) : c ≠ 0 := by
  unfold dayRead at h
  split at h
  · unfold day3 at h
    split at h
    · split at h <;> cases h <;> decide
    · cases h; decide
  · cases h; decide
set_option maxRecDepth 100000 in
theorem tail_any (l : List Str) (hl : ∀ p ∈ l, p.length ≤ 281474976710656) (a : Option Addr) (n cap : Nat) (hn : n ≤ maxLen) (br : Nat) (f e d : Value) (w : World) {S : Nat → Bool} {A : Nat → Addr} (E : Env S w A) (h1 : S 1 = true) (h2 : S 2 = true)
    (hb : w.heap[br]? = some (.cells #[f, e, d, .int .i64 0, .int .i64 (-1)] 24 (0, 0))) (hr : Rd w 1 a n (l.map fun p => .string (B p))) :
    Calls Tryz.prog 109 #[.pointer (some ⟨br, 0, none⟩), .slice a n cap] w (TailPost A (tailOf l) br f e d w) := by
  simp only [maxLen] at hn
  have hlen : l.length = n := hr.len
  rcases Nat.eq_zero_or_pos n with h0 | h0
  · subst h0
    obtain rfl : l = [] := by simpa using hlen
    have HB := Lib.hid hb
    clear hb hr E
    go_enter Tryz.func109, Tryz.ntmps109
    go_wp2
    go_ret2
    exact ⟨Besides.of_below (Below.refl _ _), rfl, HB.out⟩
  by_cases hn2 : n = 2
  case neg =>
    have T : tailOf l = .err 1 := by
      match l, hlen with
      | [], h => simp at h; omega
      | [_, _], h => simp at h; omega
      | [_], _ => rfl
      | _ :: _ :: _ :: _, _ => rfl
    rw [T]
    have t1 : ((n : Int) == 0) = false := by simp; omega
    have t2 : ((n : Int) != 2) = true := by simp; omega
    clear hb hr E T
    go_enter Tryz.func109, Tryz.ntmps109
    go_wp2
    go_ret2
    exact ⟨Besides.of_below (Below.refl _ _), by decide, .inr ⟨rfl, rfl⟩⟩
  case pos =>
  subst hn2
  obtain ⟨x, y, rfl⟩ : ∃ x y, l = [x, y] := by
    match l, hlen with
    | [x, y], _ => exact ⟨x, y, rfl⟩
  obtain ⟨b, off, rfl, hc⟩ := hr.at (by omega)
  have c0 : w.cell? ⟨b, off, none⟩ = some (.string (B x)) := hc 0 (by simp)
  have c1 : w.cell? ⟨b, off + 1, none⟩ = some (.string (B y)) := hc 1 (by simp)
  have hx := hl x (by simp)
  have hy := hl y (by simp)
  clear hc hr hl hlen
  have hlt : br < w.heap.size := (Array.getElem?_eq_some_iff.1 hb).1
  by_cases x1 : x = sCount
  case pos =>
    subst x1
    cases hw : numW 9 y with
    | none =>
      have T : tailOf [sCount, y] = .err 1 := by simp [tailOf, hw]
      rw [T]
      clear T
      have HB := Lib.hid hb
      clear hb
      go_enter Tryz.func109, Tryz.ntmps109
      go_wp2_with fail
      refine (number_no (s := B y) (by show y.toArray.size ≤ _; simpa using hy) (by simpa using hw) _ E).mono ?_
      rintro e' w1 ⟨m, rfl, hb1⟩
      have hb2 := (hb1.block br hlt).trans HB.out
      have q3 := (blk_cells hb2 3).trans (show _ = some (Value.int .i64 0) from rfl)
      have f3 := blk_frozens hb2 3
      clear hb2
      go_wp2
      go_ret2
      exact ⟨(Besides.of_below hb1).set _ _, by decide, .inr ⟨rfl, rfl⟩⟩
    | some m =>
      have hw' : numW 9 (B y).data.toList = some m := by simpa using hw
      have m0 := (numW_some hw).1
      have m1 := numW_lt hw
      have m1 : m < 1000000000 := by simpa using m1
      by_cases hm : 0 < m
      · have T : tailOf [sCount, y] = .ok (m, -1) := by simp [tailOf, hw, hm]
        rw [T]
        clear T
        have HB := Lib.hid hb
        clear hb hw
        go_enter Tryz.func109, Tryz.ntmps109
        go_wp2_with fail
        refine (number_yes hw' _ E).mono ?_
        rintro e' w1 ⟨rfl, hb1⟩
        have hb2 := (hb1.block br hlt).trans HB.out
        have q3 := (blk_cells hb2 3).trans (show _ = some (Value.int .i64 0) from rfl)
        have f3 := blk_frozens hb2 3
        have HB2 := Lib.hid hb2
        clear hb2
        go_wp2
        go_ret2
        exact ⟨(Besides.of_below hb1).set _ _, rfl, blk_sets HB2.out 3 _⟩
      · have T : tailOf [sCount, y] = .err 1 := by simp [tailOf, hw, hm]
        rw [T]
        clear T
        have HB := Lib.hid hb
        clear hb hw
        go_enter Tryz.func109, Tryz.ntmps109
        go_wp2_with fail
        refine (number_yes hw' _ E).mono ?_
        rintro e' w1 ⟨rfl, hb1⟩
        have hb2 := (hb1.block br hlt).trans HB.out
        have q3 := (blk_cells hb2 3).trans (show _ = some (Value.int .i64 0) from rfl)
        have f3 := blk_frozens hb2 3
        clear hb2
        go_wp2
        go_ret2
        exact ⟨(Besides.of_below hb1).set _ _, by decide, .inr ⟨rfl, by simp [hm]⟩⟩
  case neg =>
  have x1' : (x == [99, 111, 117, 110, 116]) = false := by rw [beq_eq_false_iff_ne]; exact x1
  by_cases x2 : x = sUntil
  case neg =>
    have T : tailOf [x, y] = .err 1 := by simp [tailOf, x1, x2]
    rw [T]
    have x2' : (x == [117, 110, 116, 105, 108]) = false := by rw [beq_eq_false_iff_ne]; exact x2
    clear T x1 x2 hb E
    go_enter Tryz.func109, Tryz.ntmps109
    go_wp2
    go_ret2
    exact ⟨Besides.of_below (Below.refl _ _), by decide, .inr ⟨rfl, rfl⟩⟩
  case pos =>
  subst x2
  have HB := Lib.hid hb
  have DR := dayRead_any (B y) w E h1 h2
  rw [show (B y).data.toList = y by simp] at DR
  clear hb x1 x1'
  cases hw : dayRead y with
  | err c =>
    have T : tailOf [sUntil, y] = .err c := by simp [tailOf, hw, show ¬ sUntil = sCount by decide]
    rw [T]
    have hc := dayRead_pos hw
    rw [hw] at DR
    clear T hw
    have D := Lib.hid DR
    clear DR
    go_enter Tryz.func109, Tryz.ntmps109
    go_wp2_with fail
    refine D.out.mono ?_
    rintro e' w1 ⟨rfl, m, rfl⟩
    dsimp only [gotI]
    have hb1 := Below.draws w m
    have hb2 := (hb1.block br hlt).trans HB.out
    have q4 := (blk_cells hb2 4).trans (show _ = some (Value.int .i64 (-1)) from rfl)
    have f4 := blk_frozens hb2 4
    clear hb2
    go_wp2
    go_ret2
    exact ⟨(Besides.of_below hb1).set _ _, hc, .inl rfl⟩
  | ok m =>
    have T : tailOf [sUntil, y] = .ok (0, m) := by simp [tailOf, hw, show ¬ sUntil = sCount by decide]
    rw [T]
    rw [hw] at DR
    clear T hw
    have D := Lib.hid DR
    clear DR
    go_enter Tryz.func109, Tryz.ntmps109
    go_wp2_with fail
    refine D.out.mono ?_
    rintro e' w1 ⟨rfl, k, rfl⟩
    dsimp only [gotI]
    have hb1 := Below.draws w k
    have hb2 := (hb1.block br hlt).trans HB.out
    have q4 := (blk_cells hb2 4).trans (show _ = some (Value.int .i64 (-1)) from rfl)
    have f4 := blk_frozens hb2 4
    have HB2 := Lib.hid hb2
    clear hb2
    go_wp2
    go_ret2
    exact ⟨(Besides.of_below hb1).set _ _, rfl, blk_sets HB2.out 4 _⟩
end Go.Proofs.YtakainogpokhgaaGreatDoor
