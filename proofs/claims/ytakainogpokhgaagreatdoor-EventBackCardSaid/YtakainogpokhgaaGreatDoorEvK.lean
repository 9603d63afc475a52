/- Walks of package event: Check. -/
import Derived.Test.YtakainogpokhgaaGreatDoorEvD
namespace Go.Proofs.YtakainogpokhgaaGreatDoor
open Go.RowKit Lam

def evErrOf (n t : Bool) (big : Bool) (re le : Nat) : Nat := if n = false then 4 else if t = false then 1 else if big = true then 2 else if re ≠ 0 then re else le
theorem evErr_of (e : Ev) : evErr e = evErrOf (isName e.id) (isTitle e.title) (decide (isDay e.start = false ∨ e.long < 1 ∨ 60 < e.long)) (ruleErr e.rule) (listsErr e) := by
  unfold evErr evErrOf; simp only [decide_eq_true_eq]
/-- what is asked of an event that is walked with -/
structure EvOk (e : Ev) (h : Hd) : Prop where
  title : e.title.length ≤ 1000000000
  dn : h.dn ≤ 10000000
  sn : h.sn ≤ 10000000
  mn : h.mn ≤ 10000000
set_option maxRecDepth 100000 in set_option maxHeartbeats 2000000 in
theorem evCheck_any (e : Ev) (h : Hd) (w : World) (ok : EvOk e h) (hr : EvIs w e h) {S : Nat → Bool} {A : Nat → Addr} (E : Env S w A) (h1 : S 1 = true) (h2 : S 2 = true) (h3 : S 3 = true) (h4 : S 4 = true) (h6 : S 6 = true) (h7 : S 7 = true) (h8 : S 8 = true) :
    Calls Tryz.prog 8 #[.agg (evC e h)] w fun en w' => en = .returned (errV A (evErr e)) ∧ Below w.heap.size w w' := by
  obtain ⟨okt, okd, oks, okm⟩ := ok
  have hb1 : Below w.heap.size w (w.alloc (.cells (evC e h) 27)) := (Below.refl _ _).alloc (Nat.le_refl _) _
  have C : ∀ j, (w.alloc (.cells (evC e h) 27)).cell? ⟨w.heap.size, j, none⟩ = (evC e h)[j]? := fun j => new_cell _ _ _ j
  have c0 := (C 0).trans (show _ = some (Value.string (B e.id)) from rfl)
  have c1 := (C 1).trans (show _ = some (Value.string (B e.title)) from rfl)
  have c2 := (C 2).trans (show _ = some (Value.int .i64 e.start) from rfl)
  have c3 := (C 3).trans (show _ = some (Value.int .i64 e.long) from rfl)
  have c4 := (C 4).trans (show _ = some (Value.string (B e.rule.freq)) from rfl)
  have c5 := (C 5).trans (show _ = some (Value.int .i64 e.rule.every) from rfl)
  have c6 := (C 6).trans (show _ = some (Value.slice h.da h.dn h.dc) from rfl)
  have c7 := (C 7).trans (show _ = some (Value.int .i64 e.rule.count) from rfl)
  have c8 := (C 8).trans (show _ = some (Value.int .i64 e.rule.till) from rfl)
  have c9 := (C 9).trans (show _ = some (Value.slice h.sa h.sn h.sc) from rfl)
  have c10 := (C 10).trans (show _ = some (Value.slice h.ma h.mn h.mc) from rfl)
  have hr1 := hr.up hb1
  have E1 := E.up hb1
  have N1 := name_any (B e.id) (w.alloc (.cells (evC e h) 27))
  have T1 := fun W => title_any (B e.title) (by show e.title.toArray.size ≤ _; simp; omega) W
  rw [show (B e.id).data.toList = e.id by simp] at N1
  rw [show (B e.title).data.toList = e.title by simp] at T1
  have LE := Lib.hid (evErr_of e)
  rw [show evC e h = #[.string (B e.id), .string (B e.title), .int .i64 e.start, .int .i64 e.long, .string (B e.rule.freq), .int .i64 e.rule.every, .slice h.da h.dn h.dc, .int .i64 e.rule.count, .int .i64 e.rule.till,
    .slice h.sa h.sn h.sc, .slice h.ma h.mn h.mc] from rfl] at *
  have R1 := fun W (hb : Below _ _ W) => check_any e.rule h.da h.dn h.dc W (hr1.days.up hb) (by simp only [maxLen]; omega) (E1.up hb) h2 h3 h4 h8
  have L1 := fun W (hb : Below _ _ W) => lists_any e h W oks okm (hr1.up hb) (E1.up hb) h2 h6 h7 h8
  rw [show evC e h = #[.string (B e.id), .string (B e.title), .int .i64 e.start, .int .i64 e.long, .string (B e.rule.freq), .int .i64 e.rule.every, .slice h.da h.dn h.dc, .int .i64 e.rule.count, .int .i64 e.rule.till,
    .slice h.sa h.sn h.sc, .slice h.ma h.mn h.mc] from rfl] at L1
  have D1 := fun W => right_any e.start W
  generalize isName e.id = q1 at *
  generalize isTitle e.title = q2 at *
  generalize hq3 : isDay e.start = q3 at *
  generalize ruleErr e.rule = q4 at *
  generalize listsErr e = q5 at *
  have H2 := Lib.hid T1
  have H3 := Lib.hid D1
  have H4 := Lib.hid R1
  have H5 := Lib.hid L1
  clear hr E C T1 D1 R1 L1 hq3
  go_enter Tryz.func8, Tryz.ntmps8
  go_upto_region 1 with fail
  generalize World.alloc w _ = w1 at *
  go_wp2_with fail
  refine N1.mono ?_
  rintro en w2 ⟨rfl, hb2⟩
  have E2 := E1.up hb2
  have s4 : w2.cell? ⟨0, 0, none⟩ = some (Er (A 4)) := E2.sent 4 h4
  have d1 := Below.cells hb2 c1
  have hB2 := Below.next hb1 hb2
  cases q1
  · have R : Hid (evErr e = 4) := Lib.hid (by rw [LE.out]; rfl)
    go_wp2_with fail
    go_ret
    exact ⟨by rw [R.out]; rfl, hB2⟩
  clear s4 E2 N1
  go_wp2_with fail
  refine (H2.out _).mono ?_
  rintro en w3 ⟨rfl, hb3⟩
  have hb3' := Below.next hb2 hb3
  have E3 := E1.up hb3'
  have s1 : w3.cell? ⟨1, 0, none⟩ = some (Er (A 1)) := E3.sent 1 h1
  have s2 : w3.cell? ⟨2, 0, none⟩ = some (Er (A 2)) := E3.sent 2 h2
  have e2 := Below.cells hb3' c2
  have e3 := Below.cells hb3' c3
  have e4 := Below.cells hb3' c4
  have e5 := Below.cells hb3' c5
  have e6 := Below.cells hb3' c6
  have e7 := Below.cells hb3' c7
  have e8 := Below.cells hb3' c8
  have hB3 := Below.next hb1 hb3'
  clear hb2 hb3 hB2 d1
  cases q2
  · have R : Hid (evErr e = 1) := Lib.hid (by rw [LE.out]; rfl)
    go_wp2_with fail
    go_ret
    exact ⟨by rw [R.out]; rfl, hB3⟩
  clear s1 E3
  cases q3
  · have R : Hid (evErr e = 2) := Lib.hid (by rw [LE.out]; unfold evErrOf; simp)
    go_wp2_with fail
    refine (H3.out _).mono ?_
    rintro en w4 ⟨rfl, rfl⟩
    go_wp2_with fail
    go_ret
    exact ⟨by rw [R.out]; rfl, hB3⟩
  by_cases g1 : e.long < 1
  · have R : Hid (evErr e = 2) := Lib.hid (by rw [LE.out]; unfold evErrOf; simp [g1])
    go_wp2_with fail
    refine (H3.out _).mono ?_
    rintro en w4 ⟨rfl, rfl⟩
    go_wp2_with fail
    go_ret
    exact ⟨by rw [R.out]; rfl, hB3⟩
  by_cases g2 : 60 < e.long
  · have R : Hid (evErr e = 2) := Lib.hid (by rw [LE.out]; unfold evErrOf; simp [g2])
    go_wp2_with fail
    refine (H3.out _).mono ?_
    rintro en w4 ⟨rfl, rfl⟩
    go_wp2_with fail
    go_ret
    exact ⟨by rw [R.out]; rfl, hB3⟩
  rw [show decide (true = false ∨ e.long < 1 ∨ 60 < e.long) = false by simp; omega] at LE
  clear s2
  go_wp2_with fail
  refine (H3.out _).mono ?_
  rintro en w4 ⟨rfl, rfl⟩
  go_wp2_with fail
  refine (H4.out _ hb3').mono ?_
  rintro en w5 ⟨rfl, hb5⟩
  have hb5' := Below.next hb3' hb5
  have hB5 := Below.next hb1 hb5'
  clear e2 e3 e4 e5 e6 e7 e8
  by_cases g3 : q4 = 0
  · subst g3
    rw [errV_zero]
    have R : Hid (evErr e = q5) := Lib.hid (by rw [LE.out]; rfl)
    have f0 := Below.cells hb5' c0
    have f1 := Below.cells hb5' c1
    have f2 := Below.cells hb5' c2
    have f3 := Below.cells hb5' c3
    have f4 := Below.cells hb5' c4
    have f5 := Below.cells hb5' c5
    have f6 := Below.cells hb5' c6
    have f7 := Below.cells hb5' c7
    have f8 := Below.cells hb5' c8
    have f9 := Below.cells hb5' c9
    have f10 := Below.cells hb5' c10
    go_wp2_with fail
    refine (H5.out _ hb5').mono ?_
    rintro en w6 ⟨rfl, hb6⟩
    go_wp2_with fail
    go_ret
    exact ⟨by rw [R.out]; rfl, Below.next hB5 hb6⟩
  · rw [errV_pos g3]
    have R : Hid (evErr e = q4) := Lib.hid (by rw [LE.out]; unfold evErrOf; simp [g3])
    have V := Lib.hid (errV_pos (A := A) g3)
    go_wp2_with fail
    go_ret
    exact ⟨by rw [R.out, V.out]; rfl, hB5⟩
end Go.Proofs.YtakainogpokhgaaGreatDoor
