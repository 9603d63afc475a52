/- Walks of package rule: numbers of words. -/
import Derived.Test.YtakainogpokhgaaGreatDoorStrW
import Derived.Test.YtakainogpokhgaaGreatDoorRuleW
namespace Go.Proofs.YtakainogpokhgaaGreatDoor
open Go.RowKit Lam

theorem number_yes {s : ByteArray} {n : Int} (h : numW 9 s.data.toList = some n) (w : World) {S : Nat → Bool} {A : Nat → Addr} (E : Env S w A) :
    Calls Tryz.prog 107 #[.string s] w fun e w' => e = .returned (.tuple #[.int .i64 n, .bool true]) ∧ Below w.heap.size w w' := by
  obtain ⟨n0, hs, hl, ha⟩ := numW_some h
  have hlt := numW_lt h
  have hsz : s.size ≤ 9 := by rw [← len_data]; exact hl
  have tst : (Lib.itoa n == s.toList) = true := by rw [Lib.toList_data, hs]; simp
  have hn : n < 1000000000 := by simpa using hlt
  have HA := Lib.hid ha
  clear h hs hl ha hlt
  go_enter Tryz.func107, Tryz.ntmps107
  go_wp2_with fail
  refine (atoi_ok s (by omega) n HA.out _).mono ?_
  rintro e w1 ⟨rfl, hb1⟩
  have E1 := E.up hb1
  go_wp2_with (go_at_call 38; refine (itoa_any n ?h0 ?h1 _ E1).mono ?_; (case h0 => omega); (case h1 => omega); rintro e w2 ⟨rfl, hb2⟩)
  go_ret2
  exact ⟨rfl, Below.next hb1 hb2⟩
/-- some number and false -/
def NoNum (w : World) (e : Ending) (w' : World) : Prop := ∃ n, e = .returned (.tuple #[.int .i64 n, .bool false]) ∧ Below w.heap.size w w'
theorem number_no {s : ByteArray} (hs : s.size ≤ 281474976710656) (h : numW 9 s.data.toList = none) (w : World) {S : Nat → Bool} {A : Nat → Addr} (E : Env S w A) :
    Calls Tryz.prog 107 #[.string s] w (NoNum w) := by
  by_cases hok : ∃ v, Lib.atoiAll s.data.toList = .ok v
  case neg =>
    go_enter Tryz.func107, Tryz.ntmps107
    go_wp2_with fail
    refine (atoi_bad s hs (fun v hv => hok ⟨v, hv⟩) _ E).mono ?_
    rintro e w1 ⟨v, N, rfl, hb1⟩
    go_wp2_with fail
    go_ret2
    exact ⟨_, rfl, hb1⟩
  case pos =>
  obtain ⟨v, hv⟩ := hok
  have hvr := atoi_range hv
  have H : ¬ (s.data.toList.length ≤ 9 ∧ 0 ≤ v ∧ Lib.itoa v = s.data.toList) := by
    intro hc; unfold numW at h; rw [hv] at h; simp only at h; rw [if_pos hc] at h; cases h
  have HV := Lib.hid hv
  clear hv h
  by_cases c1 : s.size ≤ 9
  case neg =>
    clear H
    go_enter Tryz.func107, Tryz.ntmps107
    go_wp2_with fail
    refine (atoi_ok s hs v HV.out _).mono ?_
    rintro e w1 ⟨rfl, hb1⟩
    go_wp2_with fail
    go_ret2
    exact ⟨_, rfl, hb1⟩
  case pos =>
  by_cases c2 : 0 ≤ v
  case neg =>
    clear H
    go_enter Tryz.func107, Tryz.ntmps107
    go_wp2_with fail
    refine (atoi_ok s hs v HV.out _).mono ?_
    rintro e w1 ⟨rfl, hb1⟩
    go_wp2_with fail
    go_ret2
    exact ⟨_, rfl, hb1⟩
  case pos =>
  have tst : (Lib.itoa v == s.toList) = false := by
    rw [Lib.toList_data, beq_eq_false_iff_ne]; intro he; exact H ⟨by rw [len_data]; exact c1, c2, he⟩
  clear H
  go_enter Tryz.func107, Tryz.ntmps107
  go_wp2_with fail
  refine (atoi_ok s hs v HV.out _).mono ?_
  rintro e w1 ⟨rfl, hb1⟩
  have E1 := E.up hb1
  go_wp2_with (go_at_call 38; refine (itoa_any v ?h0 ?h1 _ E1).mono ?_; (case h0 => omega); (case h1 => omega); rintro e w2 ⟨rfl, hb2⟩)
  go_ret2
  exact ⟨_, rfl, Below.next hb1 hb2⟩
end Go.Proofs.YtakainogpokhgaaGreatDoor
