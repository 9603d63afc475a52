/- Walks of package event: Fields, Get. -/
import Derived.Test.YtakainogpokhgaaGreatDoorEvT
namespace Go.Proofs.YtakainogpokhgaaGreatDoor
open Go.RowKit Lam

def fieldNames : List Str := [[116, 105, 116, 108, 101], [115, 116, 97, 114, 116], [108, 111, 110, 103], [114, 117, 108, 101], [115, 107, 105, 112, 115], [109, 111, 118, 101, 115]]
def fieldName (i : Nat) : Str := fieldNames.getD i []
def fieldRow : Array Value := #[.string ⟨#[116, 105, 116, 108, 101]⟩, .string ⟨#[115, 116, 97, 114, 116]⟩, .string ⟨#[108, 111, 110, 103]⟩, .string ⟨#[114, 117, 108, 101]⟩, .string ⟨#[115, 107, 105, 112, 115]⟩, .string ⟨#[109, 111, 118, 101, 115]⟩]
theorem fields_any (w : World) : Calls Tryz.prog 12 #[] w fun e w' => e = .returned (.slice (some ⟨w.heap.size, 0, none⟩) 6 6) ∧ w' = w.alloc (.cells fieldRow 9) := by
  go_enter Tryz.func12, Tryz.ntmps12
  go_wp2
  go_ret
  exact ⟨rfl, rfl⟩
theorem fieldRow_at (i : Nat) (h : i < 6) : fieldRow[i]? = some (.string (B (fieldName i))) := by
  match i, h with
  | 0, _ | 1, _ | 2, _ | 3, _ | 4, _ | 5, _ => rfl
set_option maxRecDepth 100000 in set_option maxHeartbeats 2000000 in
theorem get_any (i : Nat) (hi : i < 6) (e : Ev) (h : Hd) (w : World) (ok : EvOk e h) (hl0 : -9223372036854775808 ≤ e.long) (hl1 : e.long ≤ 9223372036854775807) (hr : EvIs w e h) {S : Nat → Bool} {A : Nat → Addr} (E : Env S w A) (h2 : S 2 = true) (h3 : S 3 = true) (h4 : S 4 = true) (h8 : S 8 = true) :
    Calls Tryz.prog 14 #[.agg (evC e h), .string (B (fieldName i))] w fun en w' => en = .returned (.string (B (getF e i))) ∧ Below w.heap.size w w' := by
  obtain ⟨okt, okd, oks, okm⟩ := ok
  have hb1 : Below w.heap.size w (w.alloc (.cells (evC e h) 27)) := (Below.refl _ _).alloc (Nat.le_refl _) _
  have C : ∀ j, (w.alloc (.cells (evC e h) 27)).cell? ⟨w.heap.size, j, none⟩ = (evC e h)[j]? := fun j => new_cell _ _ _ j
  have c1 := (C 1).trans (show _ = some (Value.string (B e.title)) from rfl)
  have c2 := (C 2).trans (show _ = some (Value.int .i64 e.start) from rfl)
  have c3 := (C 3).trans (show _ = some (Value.int .i64 e.long) from rfl)
  have c4 := (C 4).trans (show _ = some (Value.string (B e.rule.freq)) from rfl)
  have c5 := (C 5).trans (show _ = some (Value.int .i64 e.rule.every) from rfl)
  have c6 := (C 6).trans (show _ = some (Value.slice h.da h.dn h.dc) from rfl)
  have c7 := (C 7).trans (show _ = some (Value.int .i64 e.rule.count) from rfl)
  have c8 := (C 8).trans (show _ = some (Value.int .i64 e.rule.till) from rfl)
  have c9 := (C 9).trans (show _ = some (Value.slice h.sa h.sn h.sc) from rfl)
  have c10 := (C 10).trans (show _ = some (Value.slice h.ma h.mn h.mc) from rfl)
  have hr1 := hr.up hb1
  have E1 := E.up hb1
  have D1 := dayText_any e.start _ E1 h2
  have I1 := itoa_any e.long hl0 hl1 _ E1
  have R1 := ruleText_any e.rule h.da h.dn h.dc _ hr1.days (by simp only [maxLen]; omega) E1 h2 h3 h4 h8
  have K1 := skips_any e.skips h.sa h.sn h.sc _ oks hr1.skips E1 h2
  have M1 := moves_any e.moves h.ma h.mn h.mc _ okm hr1.moves E1 h2
  rw [show evC e h = #[.string (B e.id), .string (B e.title), .int .i64 e.start, .int .i64 e.long, .string (B e.rule.freq), .int .i64 e.rule.every, .slice h.da h.dn h.dc, .int .i64 e.rule.count, .int .i64 e.rule.till,
    .slice h.sa h.sn h.sc, .slice h.ma h.mn h.mc] from rfl] at *
  have HD := Lib.hid D1
  have HI := Lib.hid I1
  have HR := Lib.hid R1
  have HK := Lib.hid K1
  have HM := Lib.hid M1
  clear hr E C D1 I1 R1 K1 M1
  match i, hi with
  | 0, _ =>
    rw [show B (fieldName 0) = ⟨#[116, 105, 116, 108, 101]⟩ from rfl]
    go_enter Tryz.func14, Tryz.ntmps14
    go_upto_region 1 with fail
    generalize World.alloc w _ = w1 at *
    go_wp2_with fail
    go_ret
    exact ⟨rfl, hb1⟩
  | 1, _ =>
    rw [show B (fieldName 1) = ⟨#[115, 116, 97, 114, 116]⟩ from rfl]
    go_enter Tryz.func14, Tryz.ntmps14
    go_upto_region 1 with fail
    generalize World.alloc w _ = w1 at *
    go_wp2_with fail
    refine HD.out.mono ?_
    rintro en w2 ⟨rfl, hb2⟩
    go_wp2_with fail
    go_ret
    exact ⟨rfl, Below.next hb1 hb2⟩
  | 2, _ =>
    rw [show B (fieldName 2) = ⟨#[108, 111, 110, 103]⟩ from rfl]
    go_enter Tryz.func14, Tryz.ntmps14
    go_upto_region 1 with fail
    generalize World.alloc w _ = w1 at *
    go_wp2_with (go_at_call 38; refine HI.out.mono ?_; rintro en w2 ⟨rfl, hb2⟩)
    go_ret
    exact ⟨rfl, Below.next hb1 hb2⟩
  | 3, _ =>
    rw [show B (fieldName 3) = ⟨#[114, 117, 108, 101]⟩ from rfl]
    go_enter Tryz.func14, Tryz.ntmps14
    go_upto_region 1 with fail
    generalize World.alloc w _ = w1 at *
    go_wp2_with fail
    refine HR.out.mono ?_
    rintro en w2 ⟨rfl, hb2⟩
    go_wp2_with fail
    go_ret
    exact ⟨rfl, Below.next hb1 hb2⟩
  | 4, _ =>
    rw [show B (fieldName 4) = ⟨#[115, 107, 105, 112, 115]⟩ from rfl]
    go_enter Tryz.func14, Tryz.ntmps14
    go_upto_region 1 with fail
    generalize World.alloc w _ = w1 at *
    go_wp2_with fail
    refine HK.out.mono ?_
    rintro en w2 ⟨rfl, hb2⟩
    go_wp2_with fail
    go_ret
    exact ⟨rfl, Below.next hb1 hb2⟩
  | 5, _ =>
    rw [show B (fieldName 5) = ⟨#[109, 111, 118, 101, 115]⟩ from rfl]
    go_enter Tryz.func14, Tryz.ntmps14
    go_upto_region 1 with fail
    generalize World.alloc w _ = w1 at *
    go_wp2_with fail
    refine HM.out.mono ?_
    rintro en w2 ⟨rfl, hb2⟩
    go_wp2_with fail
    go_ret
    exact ⟨rfl, Below.next hb1 hb2⟩
end Go.Proofs.YtakainogpokhgaaGreatDoor
