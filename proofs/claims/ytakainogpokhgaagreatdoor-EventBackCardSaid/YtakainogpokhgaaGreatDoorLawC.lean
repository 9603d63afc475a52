/- The walk of lammastidelaw1.EventBack. (Printed by wip/tools/lawc.py.) -/
import Derived.Test.YtakainogpokhgaaGreatDoorLawB
namespace Go.Proofs.YtakainogpokhgaaGreatDoor
open Go.RowKit Lam

/-- the event of the closed fact -/
def ev0 : Ev := ⟨[97], [65, 32, 98], 5, 1, ⟨sOnce, 1, [], 0, -1⟩, [], []⟩
theorem ev0_txt : evTxt ev0 = [97, 124, 65, 32, 98, 124, 50, 48, 48, 48, 45, 48, 49, 45, 48, 54, 124, 49, 124, 111, 110, 99, 101, 124, 124] := by kernel_rfl
set_option maxRecDepth 100000 in
theorem evented_any (w : World) {S : Nat → Bool} {A : Nat → Addr} (E : Env S w A) (h1 : S 1 = true) (h2 : S 2 = true) (h3 : S 3 = true) (h4 : S 4 = true) (h6 : S 6 = true) (h7 : S 7 = true) (h8 : S 8 = true) :
    Calls Tryz.prog 5 #[] w fun en w' => en = .returned (.bool true) ∧ Below w.heap.size w w' := by
  have hb : Below w.heap.size w (w.alloc (.cells (evC ev0 zHd) 27)) := (Below.refl _ _).alloc (Nat.le_refl _) _
  have hx : EvAt (w.alloc (.cells (evC ev0 zHd) 27)) w.heap.size ev0 zHd := heap_alloc_new w _
  have T := evText_any ev0 zHd _ ⟨by decide, by decide, by decide, by decide⟩ ⟨Rd.nil _ _ _, Rd.nil _ _ _, Rd.nil _ _ _⟩ (E.up hb) h1 h2 h3 h4 h6 h7 h8
  rw [ev0_txt] at T
  rw [show evC ev0 zHd = #[.string ⟨#[97]⟩, .string ⟨#[65, 32, 98]⟩, .int .i64 5, .int .i64 1, .string ⟨#[111, 110, 99, 101]⟩, .int .i64 1, .slice none 0 0, .int .i64 0, .int .i64 (-1), .slice none 0 0, .slice none 0 0] from rfl] at *
  have x0 := (blk_cells hx 0).trans (show _ = some (Value.string ⟨#[97]⟩) from rfl)
  have x1 := (blk_cells hx 1).trans (show _ = some (Value.string ⟨#[65, 32, 98]⟩) from rfl)
  have x2 := (blk_cells hx 2).trans (show _ = some (Value.int .i64 5) from rfl)
  have x3 := (blk_cells hx 3).trans (show _ = some (Value.int .i64 1) from rfl)
  have x4 := (blk_cells hx 4).trans (show _ = some (Value.string ⟨#[111, 110, 99, 101]⟩) from rfl)
  have x5 := (blk_cells hx 5).trans (show _ = some (Value.int .i64 1) from rfl)
  have x6 := (blk_cells hx 6).trans (show _ = some (Value.slice none 0 0) from rfl)
  have x7 := (blk_cells hx 7).trans (show _ = some (Value.int .i64 0) from rfl)
  have x8 := (blk_cells hx 8).trans (show _ = some (Value.int .i64 (-1)) from rfl)
  have x9 := (blk_cells hx 9).trans (show _ = some (Value.slice none 0 0) from rfl)
  have x10 := (blk_cells hx 10).trans (show _ = some (Value.slice none 0 0) from rfl)
  have HT := Lib.hid T
  clear hx T
  go_enter Tryz.func5, Tryz.ntmps5
  go_wp2_with fail
  refine HT.out.mono ?_
  rintro en w2 ⟨rfl, hb2⟩
  go_wp2
  go_ret
  exact ⟨rfl, Below.next hb hb2⟩
end Go.Proofs.YtakainogpokhgaaGreatDoor
