/- Walks of package event: lists. -/
import Derived.Test.YtakainogpokhgaaGreatDoorEvC
import Derived.Laws.EntriesVeiled
namespace Go.Proofs.YtakainogpokhgaaGreatDoor
open Go.RowKit Lam

theorem listsErr_bools (e : Ev) : listsErr e = if 20 < e.skips.length ∨ 20 < e.moves.length then 7 else if rising e.skips = false ∨ rising (froms e.moves) = false then 8
    else if e.skips.any (fun d => !isDay d) = true ∨ e.moves.any (fun m => !isDay m.1 || !isDay m.2) = true then 2 else if (froms e.moves).any (fun d => e.skips.contains d) = true then 6 else 0 := by
  unfold listsErr
  have a1 : (e.skips.all isDay = false) ↔ e.skips.any (fun d => !isDay d) = true := by simp
  have a2 : (e.moves.all (fun m => isDay m.1 && isDay m.2) = false) ↔ e.moves.any (fun m => !isDay m.1 || !isDay m.2) = true := by
    rw [show (fun m : Int × Int => !isDay m.1 || !isDay m.2) = (fun m => !(isDay m.1 && isDay m.2)) from funext fun m => by rw [Bool.not_and], List.all_eq_not_any_not]
    simp
  simp only [a1, a2]
/-- a number of an error, as a Bool's tests tell it -/
def errOf (big r1 r2 b1 b2 b3 : Bool) : Nat := if big = true then 7 else if r1 = false ∨ r2 = false then 8 else if b1 = true ∨ b2 = true then 2 else if b3 = true then 6 else 0
theorem listsErr_of (e : Ev) : listsErr e = errOf (decide (20 < e.skips.length ∨ 20 < e.moves.length)) (rising e.skips) (rising (froms e.moves)) (e.skips.any fun d => !isDay d) (e.moves.any fun m => !isDay m.1 || !isDay m.2)
    ((froms e.moves).any fun d => e.skips.contains d) := by
  rw [listsErr_bools]; unfold errOf; simp only [decide_eq_true_eq]
set_option maxRecDepth 100000 in set_option maxHeartbeats 2000000 in
theorem lists_any (e : Ev) (h : Hd) (w : World) (hs : h.sn ≤ 10000000) (hm : h.mn ≤ 10000000) (hr : EvIs w e h) {S : Nat → Bool} {A : Nat → Addr} (E : Env S w A) (h2 : S 2 = true) (h6 : S 6 = true) (h7 : S 7 = true) (h8 : S 8 = true) :
    Calls Tryz.prog 30 #[.agg (evC e h)] w fun en w' => en = .returned (errV A (listsErr e)) ∧ Below w.heap.size w w' := by
  have hb1 : Below w.heap.size w (w.alloc (.cells (evC e h) 27)) := (Below.refl _ _).alloc (Nat.le_refl _) _
  have c9 : (w.alloc (.cells (evC e h) 27)).cell? ⟨w.heap.size, 9, none⟩ = some (.slice h.sa h.sn h.sc) := new_cell _ _ _ 9
  have c10 : (w.alloc (.cells (evC e h) 27)).cell? ⟨w.heap.size, 10, none⟩ = some (.slice h.ma h.mn h.mc) := new_cell _ _ _ 10
  have F := froms_any e h _ hm (hr.up hb1)
  have hr1 := hr.up hb1
  have E1 := E.up hb1
  have LE := Lib.hid (listsErr_of e)
  have sl := hr.skips.len
  have ml := hr.moves.len2
  rw [show evC e h = #[.string (B e.id), .string (B e.title), .int .i64 e.start, .int .i64 e.long, .string (B e.rule.freq), .int .i64 e.rule.every, .slice h.da h.dn h.dc, .int .i64 e.rule.count, .int .i64 e.rule.till,
    .slice h.sa h.sn h.sc, .slice h.ma h.mn h.mc] from rfl] at *
  rw [sl, ml] at LE
  clear hr E sl ml
  go_enter Tryz.func30, Tryz.ntmps30
  go_wp2_with fail
  refine F.mono ?_
  rintro en w2 ⟨v, rfl, hown, hb2⟩
  obtain ⟨fa, fc, rfl, hf1, hf2, hrd⟩ := own_form hown
  have hr2 := hr1.up hb2
  have E2 := E1.up hb2
  have d9 := Below.cells hb2 c9
  have d10 := Below.cells hb2 c10
  have hB2 := Below.next hb1 hb2
  have hb3 : Below w2.heap.size w2 (w2.alloc (.cells #[.func (.func 60) #[] #[]] 59)) := (Below.refl _ _).alloc (Nat.le_refl _) _
  have cf : (w2.alloc (.cells #[.func (.func 60) #[] #[]] 59)).cell? ⟨w2.heap.size, 0, none⟩ = some (.func (.func 60) #[] #[]) := new_cell _ _ _ 0
  have k9 := Below.cells hb3 d9
  have k10 := Below.cells hb3 d10
  have E3 := E2.up hb3
  have hr3 := hr2.up hb3
  have hrd3 := hrd.up hb3
  have hB3 := Below.next hB2 hb3
  clear hb1 hb2 c9 c10 hown hr1 E1 hr2 E2 d9 d10 hB2 hb3 hrd F
  go_upto_region 3 with fail
  generalize World.alloc w2 _ = w3 at *
  have hs' : h.sn ≤ maxLen := by simp only [maxLen]; omega
  have hm' : h.mn ≤ maxLen := by simp only [maxLen]; omega
  have P1 := fun W (hb : Below w3.heap.size w3 W) => rising_any e.skips h.sa h.sn h.sc W hs' (hr3.skips.up hb)
  have P2 := fun W (hb : Below w3.heap.size w3 W) => rising_any (froms e.moves) fa h.mn fc W hm' (hrd3.up hb)
  have P3 := fun W (hb : Below w3.heap.size w3 W) => containsFuncInt_any 60 #[] (enters_of Tryz.func60 (by kernel_rfl) rfl) (fun d => !isDay d) e.skips h.sa h.sn h.sc W hs' (hr3.skips.up hb) (fun x _ => bad1_any x W)
  have P4 := fun W (hb : Below w3.heap.size w3 W) => containsFuncMove_any 64 #[.pointer (some ⟨w2.heap.size, 0, none⟩)] (enters_of Tryz.func64 (by kernel_rfl) rfl) (fun m => !isDay m.1 || !isDay m.2) e.moves h.ma h.mn h.mc W hm' (hr3.moves.up hb)
    (fun x _ => bad2_any x _ W (Below.cells hb cf))
  have P5 := fun W (hb : Below w3.heap.size w3 W) => containsFuncInt_any 65 #[.pointer (some ⟨w.heap.size, 0, none⟩)] (enters_of Tryz.func65 (by kernel_rfl) rfl) (fun d => e.skips.contains d) (froms e.moves) fa h.mn fc W hm' (hrd3.up hb)
    (fun x _ => bad3_any x e.skips _ h.sa h.sn h.sc hs' W (Below.cells hb k9) (hr3.skips.up hb))
  generalize rising e.skips = r1 at *
  generalize rising (froms e.moves) = r2 at *
  generalize (e.skips.any fun d => !isDay d) = b1 at *
  generalize (e.moves.any fun m => !isDay m.1 || !isDay m.2) = b2 at *
  generalize ((froms e.moves).any fun d => e.skips.contains d) = b3 at *
  have H1 := Lib.hid P1
  have H2 := Lib.hid P2
  have H3 := Lib.hid P3
  have H4 := Lib.hid P4
  have H5 := Lib.hid P5
  have h7c : w3.cell? ⟨6, 0, none⟩ = some (Er (A 7)) := E3.sent 7 h7
  clear P1 P2 P3 P4 P5 hr3 hrd3
  by_cases g1 : 20 < h.sn
  · have q1 : (20 : Int) < (h.sn : Int) := by omega
    have R : Hid (listsErr e = 7) := Lib.hid (by rw [LE.out]; unfold errOf; rw [if_pos (by simp [g1])])
    go_wp2_with fail
    go_ret
    exact ⟨by rw [R.out]; rfl, hB3⟩
  have q1 : ¬ (20 : Int) < (h.sn : Int) := by omega
  by_cases g2 : 20 < h.mn
  · have q2 : (20 : Int) < (h.mn : Int) := by omega
    have R : Hid (listsErr e = 7) := Lib.hid (by rw [LE.out]; unfold errOf; rw [if_pos (by simp [g2])])
    go_wp2_with fail
    go_ret
    exact ⟨by rw [R.out]; rfl, hB3⟩
  have q2 : ¬ (20 : Int) < (h.mn : Int) := by omega
  rw [show decide (20 < h.sn ∨ 20 < h.mn) = false by simp; omega] at LE
  clear h7c
  go_wp2_with fail
  refine (H1.out _ (Below.refl _ _)).mono ?_
  rintro en w4 ⟨rfl, hb4⟩
  have E4 := E3.up hb4
  have h8c : w4.cell? ⟨5, 0, none⟩ = some (Er (A 8)) := E4.sent 8 h8
  have hB4 := Below.next hB3 hb4
  cases r1
  · have R : Hid (listsErr e = 8) := Lib.hid (by rw [LE.out]; rfl)
    go_wp2_with fail
    go_ret
    exact ⟨by rw [R.out]; rfl, hB4⟩
  clear h8c E4
  go_wp2_with fail
  refine (H2.out _ hb4).mono ?_
  rintro en w5 ⟨rfl, hb5⟩
  have hb5' := Below.next hb4 hb5
  have E5 := E3.up hb5'
  have h8c : w5.cell? ⟨5, 0, none⟩ = some (Er (A 8)) := E5.sent 8 h8
  have hB5 := Below.next hB3 hb5'
  have m9 := Below.cells hb5' k9
  have mf := Below.cells hb5' cf
  clear hb4 hb5 hB4
  cases r2
  · have R : Hid (listsErr e = 8) := Lib.hid (by rw [LE.out]; rfl)
    go_wp2_with fail
    go_ret
    exact ⟨by rw [R.out]; rfl, hB5⟩
  clear h8c E5
  go_wp2_with fail
  refine (H3.out _ hb5').mono ?_
  rintro en w6 ⟨rfl, hb6⟩
  have hb6' := Below.next hb5' hb6
  have E6 := E3.up hb6'
  have h2c : w6.cell? ⟨2, 0, none⟩ = some (Er (A 2)) := E6.sent 2 h2
  have hB6 := Below.next hB3 hb6'
  have n10 := Below.cells hb6' k10
  clear hb5' hb6 hB5 m9 mf
  cases b1
  case true =>
    have R : Hid (listsErr e = 2) := Lib.hid (by rw [LE.out]; rfl)
    go_wp2_with fail
    go_ret
    exact ⟨by rw [R.out]; rfl, hB6⟩
  case false =>
  clear h2c E6
  go_wp2_with fail
  refine (H4.out _ hb6').mono ?_
  rintro en w7 ⟨rfl, hb7⟩
  have hb7' := Below.next hb6' hb7
  have E7 := E3.up hb7'
  have h2c : w7.cell? ⟨2, 0, none⟩ = some (Er (A 2)) := E7.sent 2 h2
  have hB7 := Below.next hB3 hb7'
  clear hb6' hb7 hB6 n10
  cases b2
  case true =>
    have R : Hid (listsErr e = 2) := Lib.hid (by rw [LE.out]; rfl)
    go_wp2_with fail
    go_ret
    exact ⟨by rw [R.out]; rfl, hB7⟩
  case false =>
  clear h2c E7
  go_wp2_with fail
  refine (H5.out _ hb7').mono ?_
  rintro en w8 ⟨rfl, hb8⟩
  have hb8' := Below.next hb7' hb8
  have E8 := E3.up hb8'
  have h6c : w8.cell? ⟨7, 0, none⟩ = some (Er (A 6)) := E8.sent 6 h6
  have hB8 := Below.next hB3 hb8'
  cases b3
  case true =>
    have R : Hid (listsErr e = 6) := Lib.hid (by rw [LE.out]; rfl)
    go_wp2_with fail
    go_ret
    exact ⟨by rw [R.out]; rfl, hB8⟩
  case false =>
    have R : Hid (listsErr e = 0) := Lib.hid (by rw [LE.out]; rfl)
    go_wp2_with fail
    go_ret
    exact ⟨by rw [R.out]; rfl, hB8⟩
end Go.Proofs.YtakainogpokhgaaGreatDoor
