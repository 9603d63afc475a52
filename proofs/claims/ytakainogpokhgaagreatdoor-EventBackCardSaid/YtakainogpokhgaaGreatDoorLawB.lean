/- Walks of the law's own helpers: lengths, own copies. (Printed by wip/tools/lawb.py.) -/
import Derived.Test.YtakainogpokhgaaGreatDoorLawA
import Derived.Laws.AppendOwnNone
namespace Go.Proofs.YtakainogpokhgaaGreatDoor
open Go.RowKit Lam

set_option maxRecDepth 100000 in
theorem longRule_a (r : Rule) (a : Option Addr) (n c : Nat) (w : World) (h : 20 < r.freq.length) :
    Calls Tryz.prog 24 #[.agg #[.string (B r.freq), .int .i64 r.every, .slice a n c, .int .i64 r.count, .int .i64 r.till]] w fun e w' => e = .returned (.int .i64 1) ∧ Below w.heap.size w w' := by
  have hb : Below w.heap.size w (w.alloc (.cells #[.string (B r.freq), .int .i64 r.every, .slice a n c, .int .i64 r.count, .int .i64 r.till] 24)) := (Below.refl _ _).alloc (Nat.le_refl _) _
  have hx : (w.alloc (.cells #[.string (B r.freq), .int .i64 r.every, .slice a n c, .int .i64 r.count, .int .i64 r.till] 24)).heap[w.heap.size]? = some (.cells #[.string (B r.freq), .int .i64 r.every, .slice a n c, .int .i64 r.count, .int .i64 r.till] 24 (0, 0)) := heap_alloc_new w _
  have x0 := (blk_cells hx 0).trans (show _ = some (Value.string (B r.freq)) from rfl)
  have x1 := (blk_cells hx 1).trans (show _ = some (Value.int .i64 r.every) from rfl)
  have x2 := (blk_cells hx 2).trans (show _ = some (Value.slice a n c) from rfl)
  have x3 := (blk_cells hx 3).trans (show _ = some (Value.int .i64 r.count) from rfl)
  have x4 := (blk_cells hx 4).trans (show _ = some (Value.int .i64 r.till) from rfl)
  have h' : (20 : Int) < (r.freq.length : Int) := by omega
  clear hx
  go_enter Tryz.func24, Tryz.ntmps24
  go_upto_region 1 with fail
  generalize World.alloc w _ = w1 at *
  go_wp2
  go_ret
  exact ⟨rfl, hb⟩
set_option maxRecDepth 100000 in
theorem longRule_b (r : Rule) (a : Option Addr) (n c : Nat) (w : World) (h0 : r.freq.length ≤ 20) (h : 20 < n) :
    Calls Tryz.prog 24 #[.agg #[.string (B r.freq), .int .i64 r.every, .slice a n c, .int .i64 r.count, .int .i64 r.till]] w fun e w' => e = .returned (.int .i64 1) ∧ Below w.heap.size w w' := by
  have hb : Below w.heap.size w (w.alloc (.cells #[.string (B r.freq), .int .i64 r.every, .slice a n c, .int .i64 r.count, .int .i64 r.till] 24)) := (Below.refl _ _).alloc (Nat.le_refl _) _
  have hx : (w.alloc (.cells #[.string (B r.freq), .int .i64 r.every, .slice a n c, .int .i64 r.count, .int .i64 r.till] 24)).heap[w.heap.size]? = some (.cells #[.string (B r.freq), .int .i64 r.every, .slice a n c, .int .i64 r.count, .int .i64 r.till] 24 (0, 0)) := heap_alloc_new w _
  have x0 := (blk_cells hx 0).trans (show _ = some (Value.string (B r.freq)) from rfl)
  have x1 := (blk_cells hx 1).trans (show _ = some (Value.int .i64 r.every) from rfl)
  have x2 := (blk_cells hx 2).trans (show _ = some (Value.slice a n c) from rfl)
  have x3 := (blk_cells hx 3).trans (show _ = some (Value.int .i64 r.count) from rfl)
  have x4 := (blk_cells hx 4).trans (show _ = some (Value.int .i64 r.till) from rfl)
  have h' : (20 : Int) < (n : Int) := by omega
  have h0' : ¬ 20 < r.freq.length := by omega
  have h0'' : ¬ (20 : Int) < (r.freq.length : Int) := by omega
  clear hx
  go_enter Tryz.func24, Tryz.ntmps24
  go_upto_region 1 with fail
  generalize World.alloc w _ = w1 at *
  go_wp2
  go_ret
  exact ⟨rfl, hb⟩
set_option maxRecDepth 100000 in
theorem longRule_no (r : Rule) (a : Option Addr) (n c : Nat) (w : World) (h0 : r.freq.length ≤ 20) (h : n ≤ 20) :
    Calls Tryz.prog 24 #[.agg #[.string (B r.freq), .int .i64 r.every, .slice a n c, .int .i64 r.count, .int .i64 r.till]] w fun e w' => e = .returned (.int .i64 0) ∧ Below w.heap.size w w' := by
  have hb : Below w.heap.size w (w.alloc (.cells #[.string (B r.freq), .int .i64 r.every, .slice a n c, .int .i64 r.count, .int .i64 r.till] 24)) := (Below.refl _ _).alloc (Nat.le_refl _) _
  have hx : (w.alloc (.cells #[.string (B r.freq), .int .i64 r.every, .slice a n c, .int .i64 r.count, .int .i64 r.till] 24)).heap[w.heap.size]? = some (.cells #[.string (B r.freq), .int .i64 r.every, .slice a n c, .int .i64 r.count, .int .i64 r.till] 24 (0, 0)) := heap_alloc_new w _
  have x0 := (blk_cells hx 0).trans (show _ = some (Value.string (B r.freq)) from rfl)
  have x1 := (blk_cells hx 1).trans (show _ = some (Value.int .i64 r.every) from rfl)
  have x2 := (blk_cells hx 2).trans (show _ = some (Value.slice a n c) from rfl)
  have x3 := (blk_cells hx 3).trans (show _ = some (Value.int .i64 r.count) from rfl)
  have x4 := (blk_cells hx 4).trans (show _ = some (Value.int .i64 r.till) from rfl)
  have h' : ¬ (20 : Int) < (n : Int) := by omega
  have h0' : ¬ 20 < r.freq.length := by omega
  have h0'' : ¬ (20 : Int) < (r.freq.length : Int) := by omega
  clear hx
  go_enter Tryz.func24, Tryz.ntmps24
  go_upto_region 1 with fail
  generalize World.alloc w _ = w1 at *
  go_wp2
  go_ret
  exact ⟨rfl, hb⟩
theorem longRule_any (r : Rule) (a : Option Addr) (n c : Nat) (w : World) :
    Calls Tryz.prog 24 #[.agg #[.string (B r.freq), .int .i64 r.every, .slice a n c, .int .i64 r.count, .int .i64 r.till]] w fun e w' => e = .returned (.int .i64 (if 20 < r.freq.length ∨ 20 < n then 1 else 0)) ∧ Below w.heap.size w w' := by
  by_cases h0 : 20 < r.freq.length
  · rw [if_pos (.inl h0)]; exact longRule_a r a n c w h0
  by_cases h : 20 < n
  · rw [if_pos (.inr h)]; exact longRule_b r a n c w (by omega) h
  · rw [if_neg (by omega)]; exact longRule_no r a n c w (by omega) (by omega)
set_option maxRecDepth 100000 in set_option maxHeartbeats 400000 in
theorem longEvent_r (e : Ev) (h : Hd) (w : World) (hr : 20 < e.rule.freq.length ∨ 20 < h.dn) :
    Calls Tryz.prog 6 #[.agg (evC e h)] w fun en w' => en = .returned (.int .i64 1) ∧ Below w.heap.size w w' := by
  have hb : Below w.heap.size w (w.alloc (.cells (evC e h) 27)) := (Below.refl _ _).alloc (Nat.le_refl _) _
  have hx : EvAt (w.alloc (.cells (evC e h) 27)) w.heap.size e h := heap_alloc_new w _
  have x0 := (blk_cells hx 0).trans (show _ = some (Value.string (B e.id)) from rfl)
  have x1 := (blk_cells hx 1).trans (show _ = some (Value.string (B e.title)) from rfl)
  have x2 := (blk_cells hx 2).trans (show _ = some (Value.int .i64 e.start) from rfl)
  have x3 := (blk_cells hx 3).trans (show _ = some (Value.int .i64 e.long) from rfl)
  have x4 := (blk_cells hx 4).trans (show _ = some (Value.string (B e.rule.freq)) from rfl)
  have x5 := (blk_cells hx 5).trans (show _ = some (Value.int .i64 e.rule.every) from rfl)
  have x6 := (blk_cells hx 6).trans (show _ = some (Value.slice h.da h.dn h.dc) from rfl)
  have x7 := (blk_cells hx 7).trans (show _ = some (Value.int .i64 e.rule.count) from rfl)
  have x8 := (blk_cells hx 8).trans (show _ = some (Value.int .i64 e.rule.till) from rfl)
  have x9 := (blk_cells hx 9).trans (show _ = some (Value.slice h.sa h.sn h.sc) from rfl)
  have x10 := (blk_cells hx 10).trans (show _ = some (Value.slice h.ma h.mn h.mc) from rfl)
  have K := longRule_any e.rule h.da h.dn h.dc (w.alloc (.cells (evC e h) 27))
  rw [if_pos hr] at K
  rw [show evC e h = #[.string (B e.id), .string (B e.title), .int .i64 e.start, .int .i64 e.long, .string (B e.rule.freq), .int .i64 e.rule.every, .slice h.da h.dn h.dc, .int .i64 e.rule.count, .int .i64 e.rule.till, .slice h.sa h.sn h.sc, .slice h.ma h.mn h.mc] from rfl] at *
  have HK := Lib.hid K
  clear hx K hr
  go_enter Tryz.func6, Tryz.ntmps6
  go_upto_region 1 with fail
  generalize World.alloc w _ = w1 at *
  go_wp2_with fail
  refine HK.out.mono ?_
  rintro en w2 ⟨rfl, hb2⟩
  replace x0 := Below.cells hb2 x0
  replace x1 := Below.cells hb2 x1
  replace x2 := Below.cells hb2 x2
  replace x3 := Below.cells hb2 x3
  replace x4 := Below.cells hb2 x4
  replace x5 := Below.cells hb2 x5
  replace x6 := Below.cells hb2 x6
  replace x7 := Below.cells hb2 x7
  replace x8 := Below.cells hb2 x8
  replace x9 := Below.cells hb2 x9
  replace x10 := Below.cells hb2 x10
  go_wp2
  go_ret
  exact ⟨rfl, Below.next hb hb2⟩
set_option maxRecDepth 100000 in set_option maxHeartbeats 400000 in
theorem longEvent_c0 (e : Ev) (h : Hd) (w : World) (hr : ¬ (20 < e.rule.freq.length ∨ 20 < h.dn)) (c0 : 30 < e.id.length) :
    Calls Tryz.prog 6 #[.agg (evC e h)] w fun en w' => en = .returned (.int .i64 1) ∧ Below w.heap.size w w' := by
  have hb : Below w.heap.size w (w.alloc (.cells (evC e h) 27)) := (Below.refl _ _).alloc (Nat.le_refl _) _
  have hx : EvAt (w.alloc (.cells (evC e h) 27)) w.heap.size e h := heap_alloc_new w _
  have x0 := (blk_cells hx 0).trans (show _ = some (Value.string (B e.id)) from rfl)
  have x1 := (blk_cells hx 1).trans (show _ = some (Value.string (B e.title)) from rfl)
  have x2 := (blk_cells hx 2).trans (show _ = some (Value.int .i64 e.start) from rfl)
  have x3 := (blk_cells hx 3).trans (show _ = some (Value.int .i64 e.long) from rfl)
  have x4 := (blk_cells hx 4).trans (show _ = some (Value.string (B e.rule.freq)) from rfl)
  have x5 := (blk_cells hx 5).trans (show _ = some (Value.int .i64 e.rule.every) from rfl)
  have x6 := (blk_cells hx 6).trans (show _ = some (Value.slice h.da h.dn h.dc) from rfl)
  have x7 := (blk_cells hx 7).trans (show _ = some (Value.int .i64 e.rule.count) from rfl)
  have x8 := (blk_cells hx 8).trans (show _ = some (Value.int .i64 e.rule.till) from rfl)
  have x9 := (blk_cells hx 9).trans (show _ = some (Value.slice h.sa h.sn h.sc) from rfl)
  have x10 := (blk_cells hx 10).trans (show _ = some (Value.slice h.ma h.mn h.mc) from rfl)
  have K := longRule_any e.rule h.da h.dn h.dc (w.alloc (.cells (evC e h) 27))
  rw [if_neg hr] at K
  rw [show evC e h = #[.string (B e.id), .string (B e.title), .int .i64 e.start, .int .i64 e.long, .string (B e.rule.freq), .int .i64 e.rule.every, .slice h.da h.dn h.dc, .int .i64 e.rule.count, .int .i64 e.rule.till, .slice h.sa h.sn h.sc, .slice h.ma h.mn h.mc] from rfl] at *
  have m0 : (30 : Int) < (e.id.length : Int) := by omega
  have HK := Lib.hid K
  clear hx K hr
  go_enter Tryz.func6, Tryz.ntmps6
  go_upto_region 1 with fail
  generalize World.alloc w _ = w1 at *
  go_wp2_with fail
  refine HK.out.mono ?_
  rintro en w2 ⟨rfl, hb2⟩
  replace x0 := Below.cells hb2 x0
  replace x1 := Below.cells hb2 x1
  replace x2 := Below.cells hb2 x2
  replace x3 := Below.cells hb2 x3
  replace x4 := Below.cells hb2 x4
  replace x5 := Below.cells hb2 x5
  replace x6 := Below.cells hb2 x6
  replace x7 := Below.cells hb2 x7
  replace x8 := Below.cells hb2 x8
  replace x9 := Below.cells hb2 x9
  replace x10 := Below.cells hb2 x10
  go_wp2
  go_ret
  exact ⟨rfl, Below.next hb hb2⟩
set_option maxRecDepth 100000 in set_option maxHeartbeats 400000 in
theorem longEvent_c1 (e : Ev) (h : Hd) (w : World) (hr : ¬ (20 < e.rule.freq.length ∨ 20 < h.dn)) (c0 : e.id.length ≤ 30) (c1 : 60 < e.title.length) :
    Calls Tryz.prog 6 #[.agg (evC e h)] w fun en w' => en = .returned (.int .i64 1) ∧ Below w.heap.size w w' := by
  have hb : Below w.heap.size w (w.alloc (.cells (evC e h) 27)) := (Below.refl _ _).alloc (Nat.le_refl _) _
  have hx : EvAt (w.alloc (.cells (evC e h) 27)) w.heap.size e h := heap_alloc_new w _
  have x0 := (blk_cells hx 0).trans (show _ = some (Value.string (B e.id)) from rfl)
  have x1 := (blk_cells hx 1).trans (show _ = some (Value.string (B e.title)) from rfl)
  have x2 := (blk_cells hx 2).trans (show _ = some (Value.int .i64 e.start) from rfl)
  have x3 := (blk_cells hx 3).trans (show _ = some (Value.int .i64 e.long) from rfl)
  have x4 := (blk_cells hx 4).trans (show _ = some (Value.string (B e.rule.freq)) from rfl)
  have x5 := (blk_cells hx 5).trans (show _ = some (Value.int .i64 e.rule.every) from rfl)
  have x6 := (blk_cells hx 6).trans (show _ = some (Value.slice h.da h.dn h.dc) from rfl)
  have x7 := (blk_cells hx 7).trans (show _ = some (Value.int .i64 e.rule.count) from rfl)
  have x8 := (blk_cells hx 8).trans (show _ = some (Value.int .i64 e.rule.till) from rfl)
  have x9 := (blk_cells hx 9).trans (show _ = some (Value.slice h.sa h.sn h.sc) from rfl)
  have x10 := (blk_cells hx 10).trans (show _ = some (Value.slice h.ma h.mn h.mc) from rfl)
  have K := longRule_any e.rule h.da h.dn h.dc (w.alloc (.cells (evC e h) 27))
  rw [if_neg hr] at K
  rw [show evC e h = #[.string (B e.id), .string (B e.title), .int .i64 e.start, .int .i64 e.long, .string (B e.rule.freq), .int .i64 e.rule.every, .slice h.da h.dn h.dc, .int .i64 e.rule.count, .int .i64 e.rule.till, .slice h.sa h.sn h.sc, .slice h.ma h.mn h.mc] from rfl] at *
  have n0 : ¬ 30 < e.id.length := by omega
  have m0 : ¬ (30 : Int) < (e.id.length : Int) := by omega
  have m1 : (60 : Int) < (e.title.length : Int) := by omega
  have HK := Lib.hid K
  clear hx K hr
  go_enter Tryz.func6, Tryz.ntmps6
  go_upto_region 1 with fail
  generalize World.alloc w _ = w1 at *
  go_wp2_with fail
  refine HK.out.mono ?_
  rintro en w2 ⟨rfl, hb2⟩
  replace x0 := Below.cells hb2 x0
  replace x1 := Below.cells hb2 x1
  replace x2 := Below.cells hb2 x2
  replace x3 := Below.cells hb2 x3
  replace x4 := Below.cells hb2 x4
  replace x5 := Below.cells hb2 x5
  replace x6 := Below.cells hb2 x6
  replace x7 := Below.cells hb2 x7
  replace x8 := Below.cells hb2 x8
  replace x9 := Below.cells hb2 x9
  replace x10 := Below.cells hb2 x10
  go_wp2
  go_ret
  exact ⟨rfl, Below.next hb hb2⟩
set_option maxRecDepth 100000 in set_option maxHeartbeats 400000 in
theorem longEvent_c2 (e : Ev) (h : Hd) (w : World) (hr : ¬ (20 < e.rule.freq.length ∨ 20 < h.dn)) (c0 : e.id.length ≤ 30) (c1 : e.title.length ≤ 60) (c2 : 25 < h.sn) :
    Calls Tryz.prog 6 #[.agg (evC e h)] w fun en w' => en = .returned (.int .i64 1) ∧ Below w.heap.size w w' := by
  have hb : Below w.heap.size w (w.alloc (.cells (evC e h) 27)) := (Below.refl _ _).alloc (Nat.le_refl _) _
  have hx : EvAt (w.alloc (.cells (evC e h) 27)) w.heap.size e h := heap_alloc_new w _
  have x0 := (blk_cells hx 0).trans (show _ = some (Value.string (B e.id)) from rfl)
  have x1 := (blk_cells hx 1).trans (show _ = some (Value.string (B e.title)) from rfl)
  have x2 := (blk_cells hx 2).trans (show _ = some (Value.int .i64 e.start) from rfl)
  have x3 := (blk_cells hx 3).trans (show _ = some (Value.int .i64 e.long) from rfl)
  have x4 := (blk_cells hx 4).trans (show _ = some (Value.string (B e.rule.freq)) from rfl)
  have x5 := (blk_cells hx 5).trans (show _ = some (Value.int .i64 e.rule.every) from rfl)
  have x6 := (blk_cells hx 6).trans (show _ = some (Value.slice h.da h.dn h.dc) from rfl)
  have x7 := (blk_cells hx 7).trans (show _ = some (Value.int .i64 e.rule.count) from rfl)
  have x8 := (blk_cells hx 8).trans (show _ = some (Value.int .i64 e.rule.till) from rfl)
  have x9 := (blk_cells hx 9).trans (show _ = some (Value.slice h.sa h.sn h.sc) from rfl)
  have x10 := (blk_cells hx 10).trans (show _ = some (Value.slice h.ma h.mn h.mc) from rfl)
  have K := longRule_any e.rule h.da h.dn h.dc (w.alloc (.cells (evC e h) 27))
  rw [if_neg hr] at K
  rw [show evC e h = #[.string (B e.id), .string (B e.title), .int .i64 e.start, .int .i64 e.long, .string (B e.rule.freq), .int .i64 e.rule.every, .slice h.da h.dn h.dc, .int .i64 e.rule.count, .int .i64 e.rule.till, .slice h.sa h.sn h.sc, .slice h.ma h.mn h.mc] from rfl] at *
  have n0 : ¬ 30 < e.id.length := by omega
  have m0 : ¬ (30 : Int) < (e.id.length : Int) := by omega
  have n1 : ¬ 60 < e.title.length := by omega
  have m1 : ¬ (60 : Int) < (e.title.length : Int) := by omega
  have m2 : (25 : Int) < (h.sn : Int) := by omega
  have HK := Lib.hid K
  clear hx K hr
  go_enter Tryz.func6, Tryz.ntmps6
  go_upto_region 1 with fail
  generalize World.alloc w _ = w1 at *
  go_wp2_with fail
  refine HK.out.mono ?_
  rintro en w2 ⟨rfl, hb2⟩
  replace x0 := Below.cells hb2 x0
  replace x1 := Below.cells hb2 x1
  replace x2 := Below.cells hb2 x2
  replace x3 := Below.cells hb2 x3
  replace x4 := Below.cells hb2 x4
  replace x5 := Below.cells hb2 x5
  replace x6 := Below.cells hb2 x6
  replace x7 := Below.cells hb2 x7
  replace x8 := Below.cells hb2 x8
  replace x9 := Below.cells hb2 x9
  replace x10 := Below.cells hb2 x10
  go_wp2
  go_ret
  exact ⟨rfl, Below.next hb hb2⟩
set_option maxRecDepth 100000 in set_option maxHeartbeats 400000 in
theorem longEvent_c3 (e : Ev) (h : Hd) (w : World) (hr : ¬ (20 < e.rule.freq.length ∨ 20 < h.dn)) (c0 : e.id.length ≤ 30) (c1 : e.title.length ≤ 60) (c2 : h.sn ≤ 25) (c3 : 25 < h.mn) :
    Calls Tryz.prog 6 #[.agg (evC e h)] w fun en w' => en = .returned (.int .i64 1) ∧ Below w.heap.size w w' := by
  have hb : Below w.heap.size w (w.alloc (.cells (evC e h) 27)) := (Below.refl _ _).alloc (Nat.le_refl _) _
  have hx : EvAt (w.alloc (.cells (evC e h) 27)) w.heap.size e h := heap_alloc_new w _
  have x0 := (blk_cells hx 0).trans (show _ = some (Value.string (B e.id)) from rfl)
  have x1 := (blk_cells hx 1).trans (show _ = some (Value.string (B e.title)) from rfl)
  have x2 := (blk_cells hx 2).trans (show _ = some (Value.int .i64 e.start) from rfl)
  have x3 := (blk_cells hx 3).trans (show _ = some (Value.int .i64 e.long) from rfl)
  have x4 := (blk_cells hx 4).trans (show _ = some (Value.string (B e.rule.freq)) from rfl)
  have x5 := (blk_cells hx 5).trans (show _ = some (Value.int .i64 e.rule.every) from rfl)
  have x6 := (blk_cells hx 6).trans (show _ = some (Value.slice h.da h.dn h.dc) from rfl)
  have x7 := (blk_cells hx 7).trans (show _ = some (Value.int .i64 e.rule.count) from rfl)
  have x8 := (blk_cells hx 8).trans (show _ = some (Value.int .i64 e.rule.till) from rfl)
  have x9 := (blk_cells hx 9).trans (show _ = some (Value.slice h.sa h.sn h.sc) from rfl)
  have x10 := (blk_cells hx 10).trans (show _ = some (Value.slice h.ma h.mn h.mc) from rfl)
  have K := longRule_any e.rule h.da h.dn h.dc (w.alloc (.cells (evC e h) 27))
  rw [if_neg hr] at K
  rw [show evC e h = #[.string (B e.id), .string (B e.title), .int .i64 e.start, .int .i64 e.long, .string (B e.rule.freq), .int .i64 e.rule.every, .slice h.da h.dn h.dc, .int .i64 e.rule.count, .int .i64 e.rule.till, .slice h.sa h.sn h.sc, .slice h.ma h.mn h.mc] from rfl] at *
  have n0 : ¬ 30 < e.id.length := by omega
  have m0 : ¬ (30 : Int) < (e.id.length : Int) := by omega
  have n1 : ¬ 60 < e.title.length := by omega
  have m1 : ¬ (60 : Int) < (e.title.length : Int) := by omega
  have n2 : ¬ 25 < h.sn := by omega
  have m2 : ¬ (25 : Int) < (h.sn : Int) := by omega
  have m3 : (25 : Int) < (h.mn : Int) := by omega
  have HK := Lib.hid K
  clear hx K hr
  go_enter Tryz.func6, Tryz.ntmps6
  go_upto_region 1 with fail
  generalize World.alloc w _ = w1 at *
  go_wp2_with fail
  refine HK.out.mono ?_
  rintro en w2 ⟨rfl, hb2⟩
  replace x0 := Below.cells hb2 x0
  replace x1 := Below.cells hb2 x1
  replace x2 := Below.cells hb2 x2
  replace x3 := Below.cells hb2 x3
  replace x4 := Below.cells hb2 x4
  replace x5 := Below.cells hb2 x5
  replace x6 := Below.cells hb2 x6
  replace x7 := Below.cells hb2 x7
  replace x8 := Below.cells hb2 x8
  replace x9 := Below.cells hb2 x9
  replace x10 := Below.cells hb2 x10
  go_wp2
  go_ret
  exact ⟨rfl, Below.next hb hb2⟩
set_option maxRecDepth 100000 in set_option maxHeartbeats 400000 in
theorem longEvent_no (e : Ev) (h : Hd) (w : World) (hr : ¬ (20 < e.rule.freq.length ∨ 20 < h.dn)) (c0 : e.id.length ≤ 30) (c1 : e.title.length ≤ 60) (c2 : h.sn ≤ 25) (c3 : h.mn ≤ 25) :
    Calls Tryz.prog 6 #[.agg (evC e h)] w fun en w' => en = .returned (.int .i64 0) ∧ Below w.heap.size w w' := by
  have hb : Below w.heap.size w (w.alloc (.cells (evC e h) 27)) := (Below.refl _ _).alloc (Nat.le_refl _) _
  have hx : EvAt (w.alloc (.cells (evC e h) 27)) w.heap.size e h := heap_alloc_new w _
  have x0 := (blk_cells hx 0).trans (show _ = some (Value.string (B e.id)) from rfl)
  have x1 := (blk_cells hx 1).trans (show _ = some (Value.string (B e.title)) from rfl)
  have x2 := (blk_cells hx 2).trans (show _ = some (Value.int .i64 e.start) from rfl)
  have x3 := (blk_cells hx 3).trans (show _ = some (Value.int .i64 e.long) from rfl)
  have x4 := (blk_cells hx 4).trans (show _ = some (Value.string (B e.rule.freq)) from rfl)
  have x5 := (blk_cells hx 5).trans (show _ = some (Value.int .i64 e.rule.every) from rfl)
  have x6 := (blk_cells hx 6).trans (show _ = some (Value.slice h.da h.dn h.dc) from rfl)
  have x7 := (blk_cells hx 7).trans (show _ = some (Value.int .i64 e.rule.count) from rfl)
  have x8 := (blk_cells hx 8).trans (show _ = some (Value.int .i64 e.rule.till) from rfl)
  have x9 := (blk_cells hx 9).trans (show _ = some (Value.slice h.sa h.sn h.sc) from rfl)
  have x10 := (blk_cells hx 10).trans (show _ = some (Value.slice h.ma h.mn h.mc) from rfl)
  have K := longRule_any e.rule h.da h.dn h.dc (w.alloc (.cells (evC e h) 27))
  rw [if_neg hr] at K
  rw [show evC e h = #[.string (B e.id), .string (B e.title), .int .i64 e.start, .int .i64 e.long, .string (B e.rule.freq), .int .i64 e.rule.every, .slice h.da h.dn h.dc, .int .i64 e.rule.count, .int .i64 e.rule.till, .slice h.sa h.sn h.sc, .slice h.ma h.mn h.mc] from rfl] at *
  have n0 : ¬ 30 < e.id.length := by omega
  have m0 : ¬ (30 : Int) < (e.id.length : Int) := by omega
  have n1 : ¬ 60 < e.title.length := by omega
  have m1 : ¬ (60 : Int) < (e.title.length : Int) := by omega
  have n2 : ¬ 25 < h.sn := by omega
  have m2 : ¬ (25 : Int) < (h.sn : Int) := by omega
  have n3 : ¬ 25 < h.mn := by omega
  have m3 : ¬ (25 : Int) < (h.mn : Int) := by omega
  have HK := Lib.hid K
  clear hx K hr
  go_enter Tryz.func6, Tryz.ntmps6
  go_upto_region 1 with fail
  generalize World.alloc w _ = w1 at *
  go_wp2_with fail
  refine HK.out.mono ?_
  rintro en w2 ⟨rfl, hb2⟩
  replace x0 := Below.cells hb2 x0
  replace x1 := Below.cells hb2 x1
  replace x2 := Below.cells hb2 x2
  replace x3 := Below.cells hb2 x3
  replace x4 := Below.cells hb2 x4
  replace x5 := Below.cells hb2 x5
  replace x6 := Below.cells hb2 x6
  replace x7 := Below.cells hb2 x7
  replace x8 := Below.cells hb2 x8
  replace x9 := Below.cells hb2 x9
  replace x10 := Below.cells hb2 x10
  go_wp2
  go_ret
  exact ⟨rfl, Below.next hb hb2⟩
/-- is an event too long? -/
def longEv (e : Ev) (h : Hd) : Prop := 20 < e.rule.freq.length ∨ 20 < h.dn ∨ 30 < e.id.length ∨ 60 < e.title.length ∨ 25 < h.sn ∨ 25 < h.mn
theorem longEvent_yes (e : Ev) (h : Hd) (w : World) (hl : longEv e h) :
    Calls Tryz.prog 6 #[.agg (evC e h)] w fun en w' => en = .returned (.int .i64 1) ∧ Below w.heap.size w w' := by
  unfold longEv at hl
  by_cases hr : 20 < e.rule.freq.length ∨ 20 < h.dn
  · exact longEvent_r e h w hr
  by_cases c0 : 30 < e.id.length
  · exact longEvent_c0 e h w hr c0
  by_cases c1 : 60 < e.title.length
  · exact longEvent_c1 e h w hr (by omega) c1
  by_cases c2 : 25 < h.sn
  · exact longEvent_c2 e h w hr (by omega) (by omega) c2
  exact longEvent_c3 e h w hr (by omega) (by omega) (by omega) (by omega)
theorem longEvent_not (e : Ev) (h : Hd) (w : World) (hl : ¬ longEv e h) :
    Calls Tryz.prog 6 #[.agg (evC e h)] w fun en w' => en = .returned (.int .i64 0) ∧ Below w.heap.size w w' := by
  unfold longEv at hl
  exact longEvent_no e h w (by omega) (by omega) (by omega) (by omega) (by omega)

/-- 'append(v, src...)', v the call's own, src whatever reads -/
theorem wpList_append_src {P : Program} {w : World} {ops : Array Oper} {rest : List Oper} {o : Oper} {a : Act} {Q : Exit → Act → World → Prop} (hgd : o.guard = none) (s x : Operand) (t : TypeId)
    (ho : o.op = .call { callee := .builtin .append, args := #[s, x], argTypes := #[t, t] })
    (base : Nat) (e : TypeId) (i : TypeInfo) (z : Value) (size bytes : Nat) (ht : P.underlying t = some (.slice e)) (hi : P.info? e = some i) (hz : i.zero = some z)
    (hsize : i.size = size) (hby : i.bytes = bytes) (hzs : z.cells.size = size) (hsz : 0 < size)
    (v : Value) (n : Nat) (xs : List Value) (hs : a.eval s = v) (hown : w.ownsRow base e size v n xs)
    (p : Option Addr) (m c : Nat) (news : List Value) (hx : a.eval x = .slice p m c) (hd : Rd w size p m news) (hnil : p = none → c = 0) (h1 : ∀ u ∈ news, u.oneCell' = true)
    (h63 : n + m ≤ maxLen) (hbytes : (n + m) * bytes ≤ 140737488355328) (hbase : base ≤ w.heap.size)
    (h : ∀ v' w', w'.ownsRow base e size v' (n + m) (xs ++ news) → Below base w w' → wpList P ops Q rest (a.put o.dst v') w') : wpList P ops Q (o :: rest) a w := by
  cases p with
  | none =>
    obtain rfl : m = 0 := by
      rcases Nat.eq_zero_or_pos m with h | h
      · exact h
      · obtain ⟨b, off, e, _⟩ := hd.2 h; cases e
    obtain rfl : news = [] := by simpa using hd.1
    rw [hnil rfl] at hx
    exact wpList_append_own_none hgd s x t ho base e i size ht hi v n xs hs hown hx (h v w (by simpa using hown) (Below.refl _ _))
  | some q =>
    refine wpList_append_own w hgd s x t ho base e i z size bytes ht hi hz hsize hby hzs hsz v n xs hs hown q m c news hx hd.1 ?_ h1 h63 hbytes hbase ?_
    · intro j u hj
      have hj' := (List.getElem?_eq_some_iff.1 hj).1
      have hm : 0 < m := by
        rcases Nat.eq_zero_or_pos m with h | h
        · subst h; have := hd.1; omega
        · exact h
      obtain ⟨b, off, e, hc⟩ := hd.2 hm
      injection e with e; subst e
      rw [Addr.add_lit]; exact hc j u hj
    · intro v' w' hown' hg _
      exact h v' w' hown' ((Below.refl base w).grown hg hbase (fun k hk => (hown.lt k hk).1))
theorem ownRuleRet {W : World} {N : Nat} {v0 v1 v2 v3 v4 : Value} {tmps : Array Value} (hx : W.heap[N]? = some (.cells #[v0, v1, v2, v3, v4] 24 (0, 0))) (h2 : tmps.getD 2 undef = .pointer (some ⟨N, 0, none⟩)) :
    (results Tryz.f25 tmps).run Tryz.prog W = .ok (.agg #[v0, v1, v2, v3, v4]) W := by
  have y0 := blk_cells hx 0
  have y1 := blk_cells hx 1
  have y2 := blk_cells hx 2
  have y3 := blk_cells hx 3
  have y4 := blk_cells hx 4
  simp only [Array.getD_eq_getD_getElem?] at h2
  simp [results, Tryz.results25, go_sem, y0, y1, y2, y3, y4, h2]
theorem ownEventRet {W : World} {N : Nat} {u0 u1 u2 u3 u4 u5 u6 u7 u8 u9 u10 : Value} {tmps : Array Value} (hx : W.heap[N]? = some (.cells #[u0, u1, u2, u3, u4, u5, u6, u7, u8, u9, u10] 27 (0, 0))) (h2 : tmps.getD 2 undef = .pointer (some ⟨N, 0, none⟩)) :
    (results Tryz.f7 tmps).run Tryz.prog W = .ok (.agg #[u0, u1, u2, u3, u4, u5, u6, u7, u8, u9, u10]) W := by
  have y0 := blk_cells hx 0
  have y1 := blk_cells hx 1
  have y2 := blk_cells hx 2
  have y3 := blk_cells hx 3
  have y4 := blk_cells hx 4
  have y5 := blk_cells hx 5
  have y6 := blk_cells hx 6
  have y7 := blk_cells hx 7
  have y8 := blk_cells hx 8
  have y9 := blk_cells hx 9
  have y10 := blk_cells hx 10
  simp only [Array.getD_eq_getD_getElem?] at h2
  simp [results, Tryz.results7, go_sem, y0, y1, y2, y3, y4, y5, y6, y7, y8, y9, y10, h2]
/-- a rule's own copy -/
def OwnRulePost (r : Rule) (n : Nat) (w : World) (en : Ending) (w' : World) : Prop :=
  ∃ a c, en = .returned (.agg #[.string (B r.freq), .int .i64 r.every, .slice a n c, .int .i64 r.count, .int .i64 r.till]) ∧ Rd w' 1 a n (r.days.map (Value.int .i64)) ∧ (∀ b o, 0 < n → a = some ⟨b, o, none⟩ → w.heap.size + 2 ≤ b) ∧ Below w.heap.size w w'
set_option maxRecDepth 100000 in set_option maxHeartbeats 1000000 in
theorem ownRule_any (r : Rule) (a : Option Addr) (n c : Nat) (w : World) (hd : Rd w 1 a n (r.days.map (Value.int .i64))) (hn : n ≤ 10000000) (hnil : a = none → c = 0) :
    Calls Tryz.prog 25 #[.agg #[.string (B r.freq), .int .i64 r.every, .slice a n c, .int .i64 r.count, .int .i64 r.till]] w (OwnRulePost r n w) := by
  have hb : Below w.heap.size w ((w.alloc (.cells #[.string (B r.freq), .int .i64 r.every, .slice a n c, .int .i64 r.count, .int .i64 r.till] 24)).alloc (.cells zRule 24)) := ((Below.refl _ _).alloc (Nat.le_refl _) _).alloc (by simp) _
  have hx : ((w.alloc (.cells #[.string (B r.freq), .int .i64 r.every, .slice a n c, .int .i64 r.count, .int .i64 r.till] 24)).alloc (.cells zRule 24)).heap[w.heap.size]? = some (.cells #[.string (B r.freq), .int .i64 r.every, .slice a n c, .int .i64 r.count, .int .i64 r.till] 24 (0, 0)) := (Below.heap_alloc _ _ _ (by simp)).trans (heap_alloc_new w _)
  have hy : ((w.alloc (.cells #[.string (B r.freq), .int .i64 r.every, .slice a n c, .int .i64 r.count, .int .i64 r.till] 24)).alloc (.cells zRule 24)).heap[w.heap.size + 1]? = some (.cells zRule 24 (0, 0)) := by
    have := heap_alloc_new (w.alloc (.cells #[.string (B r.freq), .int .i64 r.every, .slice a n c, .int .i64 r.count, .int .i64 r.till] 24)) (.cells zRule 24); simpa using this
  have hZ : ((w.alloc (.cells #[.string (B r.freq), .int .i64 r.every, .slice a n c, .int .i64 r.count, .int .i64 r.till] 24)).alloc (.cells zRule 24)).heap.size = w.heap.size + 2 := by simp
  have x0 := (blk_cells hx 0).trans (show _ = some (Value.string (B r.freq)) from rfl)
  have x1 := (blk_cells hx 1).trans (show _ = some (Value.int .i64 r.every) from rfl)
  have x2 := (blk_cells hx 2).trans (show _ = some (Value.slice a n c) from rfl)
  have x3 := (blk_cells hx 3).trans (show _ = some (Value.int .i64 r.count) from rfl)
  have x4 := (blk_cells hx 4).trans (show _ = some (Value.int .i64 r.till) from rfl)
  have z0 := blk_frozens hx 0
  have z1 := blk_frozens hx 1
  have z2 := blk_frozens hx 2
  have z3 := blk_frozens hx 3
  have z4 := blk_frozens hx 4
  have hd1 := hd.up hb
  have HX := Lib.hid hx
  have HY := Lib.hid hy
  have HZ := Lib.hid hZ
  have hZ1 : w.heap.size + 2 ≤ ((w.alloc (.cells #[.string (B r.freq), .int .i64 r.every, .slice a n c, .int .i64 r.count, .int .i64 r.till] 24)).alloc (.cells zRule 24)).heap.size := by omega
  obtain ⟨i0, hi, hz0, hz1, hz2⟩ := info_parts int_info
  have HNIL := Lib.hid hnil
  clear hx hy hd hZ hnil
  go_enter Tryz.func25, Tryz.ntmps25
  go_upto_region 1 with fail
  generalize World.alloc (World.alloc w _) _ = w1 at *
  go_wp2_with (at_builtin; (refine wpList_append_src (w := w1) rfl (.tmp 4) (.tmp 6) 22 rfl (w.heap.size + 2) 3 i0 (.int .i64 0) 1 8 Tryz.underlying22 hi hz0 hz1 hz2 rfl (by decide) (.slice none 0 0) 0 [] rfl (World.ownsRow_nil _ _ _ _) a n c _ rfl hd1 HNIL.out (ints_one _) ?h6 ?h7 hZ1 ?_); (case h6 => simp only [maxLen]; omega); (case h7 => omega); intro v2 w2 hown2 hb2; rw [Nat.zero_add] at hown2; rw [List.nil_append] at hown2; obtain ⟨a2, c2, rfl, _, _, hr2⟩ := own_form hown2; have hx2 := (hb2.block _ (by omega)).trans HX.out; have hy2 := (hb2.block _ (by omega)).trans HY.out; have p2 := (blk_cells hx2 2).trans (show _ = some (Value.slice a n c) from rfl); have f2 := blk_frozens hx2 2; have hx3 := blk_sets hx2 2 (.slice a2 n c2); have hy3 := (Below.heap_setCell w2 ⟨w.heap.size, 2, none⟩ (.slice a2 n c2) (w.heap.size + 1) (by simp)).trans hy2; have HX3 := Lib.hid hx3; have HY3 := Lib.hid hy3; have HB3 := Lib.hid (Below.setCell (hb.trans (hb2.mono (by omega))) (p := ⟨w.heap.size, 2, none⟩) (Nat.le_refl _) (.slice a2 n c2)); have HO := Lib.hid (own_new_at hown2); have HR := Lib.hid hr2; have HBS := Lib.hid ((Besides.of_below (br := w.heap.size) (Below.refl w2.heap.size w2)).set 2 (.slice a2 n c2)); have y0 := (blk_cells hx3 0).trans (show _ = some (Value.string (B r.freq)) from rfl); have y1 := (blk_cells hx3 1).trans (show _ = some (Value.int .i64 r.every) from rfl); have y2 := (blk_cells hx3 2).trans (show _ = some (Value.slice a2 n c2) from rfl); have y3 := (blk_cells hx3 3).trans (show _ = some (Value.int .i64 r.count) from rfl); have y4 := (blk_cells hx3 4).trans (show _ = some (Value.int .i64 r.till) from rfl); have g0 := blk_frozens hy3 0; have g1 := blk_frozens hy3 1; have g2 := blk_frozens hy3 2; have g3 := blk_frozens hy3 3; have g4 := blk_frozens hy3 4; have q0 := (blk_cells hy3 0).trans (show _ = some (Value.string ⟨#[]⟩) from rfl); have q1 := (blk_cells hy3 1).trans (show _ = some (Value.int .i64 0) from rfl); have q2 := (blk_cells hy3 2).trans (show _ = some (Value.slice none 0 0) from rfl); have q3 := (blk_cells hy3 3).trans (show _ = some (Value.int .i64 0) from rfl); have q4 := (blk_cells hy3 4).trans (show _ = some (Value.int .i64 0) from rfl); clear hx2 hy2 hx3 hy3 hown2 hr2 hb2 x0 x1 x2 x3 x4 z0 z1 z2 z3 z4)
  refine bodyPost_ret (ownRuleRet (N := w.heap.size + 1) (box5_set HY3.out _ _ _ _ _) rfl) rfl ⟨a2, c2, rfl, ?_, HO.out, ?_⟩
  · exact (HR.out.besides HBS.out (fun b o h e => by have := HO.out b o h e; omega)).besides (((((((Besides.of_below (br := w.heap.size + 1) (Below.refl _ _)).set 0 _).set 1 _).set 2 _).set 3 _).set 4 _)) (fun b o h e => by have := HO.out b o h e; omega)
  · exact ((((HB3.out.setCell (p := ⟨w.heap.size + 1, 0, none⟩) (Nat.le_succ _) _).setCell (p := ⟨w.heap.size + 1, 1, none⟩) (Nat.le_succ _) _).setCell (p := ⟨w.heap.size + 1, 2, none⟩) (Nat.le_succ _) _).setCell (p := ⟨w.heap.size + 1, 3, none⟩) (Nat.le_succ _) _).setCell (p := ⟨w.heap.size + 1, 4, none⟩) (Nat.le_succ _) _
/-- nil slices have no room -/
structure HdNil (h : Hd) : Prop where
  d : h.da = none → h.dc = 0
  s : h.sa = none → h.sc = 0
  m : h.ma = none → h.mc = 0
set_option maxRecDepth 100000 in set_option maxHeartbeats 1000000 in
theorem ownEvent_any (e : Ev) (h : Hd) (w : World) (okd : h.dn ≤ 10000000) (oks : h.sn ≤ 10000000) (okm : h.mn ≤ 10000000) (hr : EvIs w e h) (hnil : HdNil h) :
    Calls Tryz.prog 7 #[.agg (evC e h)] w (CopyPost e h w) := by
  have hb1 : Below w.heap.size w ((w.alloc (.cells (evC e h) 27)).alloc (.cells zEvC 27)) := ((Below.refl _ _).alloc (Nat.le_refl _) _).alloc (by simp) _
  have hx : EvAt ((w.alloc (.cells (evC e h) 27)).alloc (.cells zEvC 27)) w.heap.size e h := (Below.heap_alloc _ _ _ (by simp)).trans (heap_alloc_new w _)
  have hz : ((w.alloc (.cells (evC e h) 27)).alloc (.cells zEvC 27)).heap[w.heap.size + 1]? = some (.cells zEvC 27 (0, 0)) := by
    have := heap_alloc_new (w.alloc (.cells (evC e h) 27)) (.cells zEvC 27); simpa using this
  have hr1 := hr.up hb1
  have hZ : w.heap.size + 1 < ((w.alloc (.cells (evC e h) 27)).alloc (.cells zEvC 27)).heap.size := by simp
  have K := Lib.hid (ownRule_any e.rule h.da h.dn h.dc _ hr1.days okd hnil.d)
  have off := hr.off (N := w.heap.size) (Nat.le_refl _)
  rw [show evC e h = #[.string (B e.id), .string (B e.title), .int .i64 e.start, .int .i64 e.long, .string (B e.rule.freq), .int .i64 e.rule.every, .slice h.da h.dn h.dc, .int .i64 e.rule.count, .int .i64 e.rule.till, .slice h.sa h.sn h.sc, .slice h.ma h.mn h.mc] from rfl] at *
  have x0 := (blk_cells hx 0).trans (show _ = some (Value.string (B e.id)) from rfl)
  have x1 := (blk_cells hx 1).trans (show _ = some (Value.string (B e.title)) from rfl)
  have x2 := (blk_cells hx 2).trans (show _ = some (Value.int .i64 e.start) from rfl)
  have x3 := (blk_cells hx 3).trans (show _ = some (Value.int .i64 e.long) from rfl)
  have x4 := (blk_cells hx 4).trans (show _ = some (Value.string (B e.rule.freq)) from rfl)
  have x5 := (blk_cells hx 5).trans (show _ = some (Value.int .i64 e.rule.every) from rfl)
  have x6 := (blk_cells hx 6).trans (show _ = some (Value.slice h.da h.dn h.dc) from rfl)
  have x7 := (blk_cells hx 7).trans (show _ = some (Value.int .i64 e.rule.count) from rfl)
  have x8 := (blk_cells hx 8).trans (show _ = some (Value.int .i64 e.rule.till) from rfl)
  have x9 := (blk_cells hx 9).trans (show _ = some (Value.slice h.sa h.sn h.sc) from rfl)
  have x10 := (blk_cells hx 10).trans (show _ = some (Value.slice h.ma h.mn h.mc) from rfl)
  have z0 := blk_frozens hx 0
  have z1 := blk_frozens hx 1
  have z2 := blk_frozens hx 2
  have z3 := blk_frozens hx 3
  have z4 := blk_frozens hx 4
  have z5 := blk_frozens hx 5
  have z6 := blk_frozens hx 6
  have z7 := blk_frozens hx 7
  have z8 := blk_frozens hx 8
  have z9 := blk_frozens hx 9
  have z10 := blk_frozens hx 10
  have HX := Lib.hid hx
  have HZ := Lib.hid hz
  have HB1 := Lib.hid hb1
  have HR1 := Lib.hid hr1
  obtain ⟨i0, hi, hz0, hz1, hz2⟩ := info_parts int_info
  obtain ⟨j0, hj, hj0, hj1, hj2⟩ := info_parts mv_info
  clear hx hz hr hr1 hb1
  go_enter Tryz.func7, Tryz.ntmps7
  go_upto_region 3 with fail
  generalize World.alloc (World.alloc w _) _ = w1 at *
  go_wp2_with fail
  refine K.out.mono ?_
  rintro en w2 ⟨a1, c1, rfl, hr2, hn2, hb2⟩
  have hx2 : EvAt w2 w.heap.size e h := (hb2.block _ (by omega)).trans HX.out
  have hx3 := rule_sets hx2 e.rule a1 h.dn c1
  have hb3 : Besides w.heap.size w2 (((((w2.setCell ⟨w.heap.size, 4, none⟩ (.string (B e.rule.freq))).setCell ⟨w.heap.size, 5, none⟩ (.int .i64 e.rule.every)).setCell ⟨w.heap.size, 6, none⟩ (.slice a1 h.dn c1)).setCell ⟨w.heap.size, 7, none⟩ (.int .i64 e.rule.count)).setCell ⟨w.heap.size, 8, none⟩ (.int .i64 e.rule.till)) := rule_besides (Besides.of_below (Below.refl _ _)) _ _ _ _ _
  replace x0 := (blk_cells hx2 0).trans (show _ = some (Value.string (B e.id)) from rfl)
  replace x1 := (blk_cells hx2 1).trans (show _ = some (Value.string (B e.title)) from rfl)
  replace x2 := (blk_cells hx2 2).trans (show _ = some (Value.int .i64 e.start) from rfl)
  replace x3 := (blk_cells hx2 3).trans (show _ = some (Value.int .i64 e.long) from rfl)
  replace x4 := (blk_cells hx2 4).trans (show _ = some (Value.string (B e.rule.freq)) from rfl)
  replace x5 := (blk_cells hx2 5).trans (show _ = some (Value.int .i64 e.rule.every) from rfl)
  replace x6 := (blk_cells hx2 6).trans (show _ = some (Value.slice h.da h.dn h.dc) from rfl)
  replace x7 := (blk_cells hx2 7).trans (show _ = some (Value.int .i64 e.rule.count) from rfl)
  replace x8 := (blk_cells hx2 8).trans (show _ = some (Value.int .i64 e.rule.till) from rfl)
  replace x9 := (blk_cells hx2 9).trans (show _ = some (Value.slice h.sa h.sn h.sc) from rfl)
  replace x10 := (blk_cells hx2 10).trans (show _ = some (Value.slice h.ma h.mn h.mc) from rfl)
  replace z0 := blk_frozens hx2 0
  replace z1 := blk_frozens hx2 1
  replace z2 := blk_frozens hx2 2
  replace z3 := blk_frozens hx2 3
  replace z4 := blk_frozens hx2 4
  replace z5 := blk_frozens hx2 5
  replace z6 := blk_frozens hx2 6
  replace z7 := blk_frozens hx2 7
  replace z8 := blk_frozens hx2 8
  replace z9 := blk_frozens hx2 9
  replace z10 := blk_frozens hx2 10
  have HX3 := Lib.hid hx3
  have HB2 := Lib.hid hb2
  have HB3 := Lib.hid hb3
  have HR2 := Lib.hid hr2
  have HN2 := Lib.hid hn2
  clear hx2 hx3 hb3 hb2 hr2 hn2
  go_upto_region 4 with fail
  generalize (((((w2.setCell ⟨w.heap.size, 4, none⟩ (.string (B e.rule.freq))).setCell ⟨w.heap.size, 5, none⟩ (.int .i64 e.rule.every)).setCell ⟨w.heap.size, 6, none⟩ (.slice a1 h.dn c1)).setCell ⟨w.heap.size, 7, none⟩ (.int .i64 e.rule.count)).setCell ⟨w.heap.size, 8, none⟩ (.int .i64 e.rule.till)) = w3 at *
  have hz12 := HB2.out.size
  have hz23 := HB3.out.size
  have hd3 : Rd w3 1 a1 h.dn (e.rule.days.map (Value.int .i64)) := HR2.out.besides HB3.out (fun b o hh ee => by have := HN2.out b o hh ee; omega)
  have hs3 : Rd w3 1 h.sa h.sn (e.skips.map (Value.int .i64)) := (HR1.out.skips.up HB2.out).besides HB3.out off.s
  have hm3 : Rd w3 2 h.ma h.mn (mvC e.moves) := (HR1.out.moves.up HB2.out).besides HB3.out off.m
  have hb03 : Below w.heap.size w w3 := Besides.below (HB1.out.trans (HB2.out.mono (by omega))) HB3.out (Nat.le_refl _) (by omega)
  have hzz3 := (HB3.out.block (w.heap.size + 1) (by omega) (by omega)).trans ((HB2.out.block _ hZ).trans HZ.out)
  have hx3 : EvAt w3 w.heap.size e ⟨a1, h.dn, c1, h.sa, h.sn, h.sc, h.ma, h.mn, h.mc⟩ := HX3.out
  replace x9 := (blk_cells hx3 9).trans (show _ = some (Value.slice h.sa h.sn h.sc) from rfl)
  replace z9 := blk_frozens hx3 9
  have HD3 := Lib.hid hd3
  have HM3 := Lib.hid hm3
  have HB03 := Lib.hid hb03
  have HZ3 := Lib.hid hzz3
  have HX3' := Lib.hid hx3
  clear hd3 hm3 hb03 hzz3 hx3 x0 x1 x2 x3 x4 x5 x6 x7 x8 x10 z0 z1 z2 z3 z4 z5 z6 z7 z8 z10
  go_upto_region 5 with (at_builtin; (refine wpList_append_src (w := w3) rfl (.tmp 9) (.tmp 11) 22 rfl w3.heap.size 3 i0 (.int .i64 0) 1 8 Tryz.underlying22 hi hz0 hz1 hz2 rfl (by decide) (.slice none 0 0) 0 [] rfl (World.ownsRow_nil _ _ _ _) h.sa h.sn h.sc _ rfl hs3 hnil.s (ints_one _) ?h6 ?h7 (Nat.le_refl _) ?_); (case h6 => simp only [maxLen]; omega); (case h7 => omega); intro v4 w4 hown4 hb4; rw [Nat.zero_add] at hown4; rw [List.nil_append] at hown4; obtain ⟨a4, c4, rfl, _, _, hr4⟩ := own_form hown4; have hx4 : EvAt w4 w.heap.size e ⟨a1, h.dn, c1, h.sa, h.sn, h.sc, h.ma, h.mn, h.mc⟩ := (hb4.block _ (by omega)).trans HX3'.out; replace x9 := (blk_cells hx4 9).trans (show _ = some (Value.slice h.sa h.sn h.sc) from rfl); replace z9 := blk_frozens hx4 9; have HX4 := Lib.hid hx4; have HB4 := Lib.hid hb4; have HR4 := Lib.hid hr4; have HN4 := Lib.hid (own_new_at hown4); clear hx4 hb4 hr4 hown4)
  have hx5 : EvAt (w4.setCell ⟨w.heap.size, 9, none⟩ (.slice a4 h.sn c4)) w.heap.size e ⟨a1, h.dn, c1, a4, h.sn, c4, h.ma, h.mn, h.mc⟩ := blk_sets HX4.out 9 _
  have hb5 : Besides w.heap.size w4 (w4.setCell ⟨w.heap.size, 9, none⟩ (.slice a4 h.sn c4)) := (Besides.of_below (Below.refl _ _)).set 9 _
  generalize w4.setCell ⟨w.heap.size, 9, none⟩ (.slice a4 h.sn c4) = w5 at *
  have hz34 := HB4.out.size
  have hz45 := hb5.size
  have hd5 := (HD3.out.up HB4.out).besides hb5 (fun b o hh ee => by have := HN2.out b o hh ee; omega)
  have hs5 := HR4.out.besides hb5 (fun b o hh ee => by have := HN4.out b o hh ee; omega)
  have hm5 := (HM3.out.up HB4.out).besides hb5 off.m
  have hb05 := Besides.below (HB03.out.trans (HB4.out.mono (by omega))) hb5 (Nat.le_refl _) (by omega)
  have hzz5 := (hb5.block (w.heap.size + 1) (by omega) (by omega)).trans ((HB4.out.block (w.heap.size + 1) (by omega)).trans HZ3.out)
  have x10 := (blk_cells hx5 10).trans (show _ = some (Value.slice h.ma h.mn h.mc) from rfl)
  have z10 := blk_frozens hx5 10
  have HX5 := Lib.hid hx5
  have HD5 := Lib.hid hd5
  have HS5 := Lib.hid hs5
  have HB05 := Lib.hid hb05
  have HZ5 := Lib.hid hzz5
  clear hx5 hb5 hd5 hs5 hb05 hzz5 hs3 x9 z9
  go_upto_region 6 with (at_builtin; (refine wpList_append_src (w := w5) rfl (.tmp 14) (.tmp 16) 25 rfl w5.heap.size 68 j0 (.agg #[.int .i64 0, .int .i64 0]) 2 16 Tryz.underlying25 hj hj0 hj1 hj2 rfl (by decide) (.slice none 0 0) 0 [] rfl (World.ownsRow_nil _ _ _ _) h.ma h.mn h.mc _ rfl hm5 hnil.m (mvC_one _) ?h6 ?h7 (Nat.le_refl _) ?_); (case h6 => simp only [maxLen]; omega); (case h7 => omega); intro v6 w6 hown6 hb6; rw [Nat.zero_add] at hown6; rw [List.nil_append] at hown6; obtain ⟨a6, c6, rfl, _, _, hr6⟩ := own_form hown6; have hx6 : EvAt w6 w.heap.size e ⟨a1, h.dn, c1, a4, h.sn, c4, h.ma, h.mn, h.mc⟩ := (hb6.block _ (by omega)).trans HX5.out; replace x10 := (blk_cells hx6 10).trans (show _ = some (Value.slice h.ma h.mn h.mc) from rfl); replace z10 := blk_frozens hx6 10; have HX6 := Lib.hid hx6; have HB6 := Lib.hid hb6; have HR6 := Lib.hid hr6; have HN6 := Lib.hid (own_new_at hown6); clear hx6 hb6 hr6 hown6)
  have hx7 : EvAt (w6.setCell ⟨w.heap.size, 10, none⟩ (.slice a6 h.mn c6)) w.heap.size e ⟨a1, h.dn, c1, a4, h.sn, c4, a6, h.mn, c6⟩ := blk_sets HX6.out 10 _
  have hb7 : Besides w.heap.size w6 (w6.setCell ⟨w.heap.size, 10, none⟩ (.slice a6 h.mn c6)) := (Besides.of_below (Below.refl _ _)).set 10 _
  generalize w6.setCell ⟨w.heap.size, 10, none⟩ (.slice a6 h.mn c6) = w7 at *
  have hz56 := HB6.out.size
  have hz67 := hb7.size
  have hd7 := (HD5.out.up HB6.out).besides hb7 (fun b o hh ee => by have := HN2.out b o hh ee; omega)
  have hs7 := (HS5.out.up HB6.out).besides hb7 (fun b o hh ee => by have := HN4.out b o hh ee; omega)
  have hm7 := HR6.out.besides hb7 (fun b o hh ee => by have := HN6.out b o hh ee; omega)
  have hb07 := Besides.below (HB05.out.trans (HB6.out.mono (by omega))) hb7 (Nat.le_refl _) (by omega)
  have hzz7 := (hb7.block (w.heap.size + 1) (by omega) (by omega)).trans ((HB6.out.block (w.heap.size + 1) (by omega)).trans HZ5.out)
  have y0 := (blk_cells hx7 0).trans (show _ = some (Value.string (B e.id)) from rfl)
  have y1 := (blk_cells hx7 1).trans (show _ = some (Value.string (B e.title)) from rfl)
  have y2 := (blk_cells hx7 2).trans (show _ = some (Value.int .i64 e.start) from rfl)
  have y3 := (blk_cells hx7 3).trans (show _ = some (Value.int .i64 e.long) from rfl)
  have y4 := (blk_cells hx7 4).trans (show _ = some (Value.string (B e.rule.freq)) from rfl)
  have y5 := (blk_cells hx7 5).trans (show _ = some (Value.int .i64 e.rule.every) from rfl)
  have y6 := (blk_cells hx7 6).trans (show _ = some (Value.slice a1 h.dn c1) from rfl)
  have y7 := (blk_cells hx7 7).trans (show _ = some (Value.int .i64 e.rule.count) from rfl)
  have y8 := (blk_cells hx7 8).trans (show _ = some (Value.int .i64 e.rule.till) from rfl)
  have y9 := (blk_cells hx7 9).trans (show _ = some (Value.slice a4 h.sn c4) from rfl)
  have y10 := (blk_cells hx7 10).trans (show _ = some (Value.slice a6 h.mn c6) from rfl)
  have v0 := (blk_cells hzz7 0).trans (show _ = some (Value.string ⟨#[]⟩) from rfl)
  have v1 := (blk_cells hzz7 1).trans (show _ = some (Value.string ⟨#[]⟩) from rfl)
  have v2 := (blk_cells hzz7 2).trans (show _ = some (Value.int .i64 0) from rfl)
  have v3 := (blk_cells hzz7 3).trans (show _ = some (Value.int .i64 0) from rfl)
  have v4 := (blk_cells hzz7 4).trans (show _ = some (Value.string ⟨#[]⟩) from rfl)
  have v5 := (blk_cells hzz7 5).trans (show _ = some (Value.int .i64 0) from rfl)
  have v6 := (blk_cells hzz7 6).trans (show _ = some (Value.slice none 0 0) from rfl)
  have v7 := (blk_cells hzz7 7).trans (show _ = some (Value.int .i64 0) from rfl)
  have v8 := (blk_cells hzz7 8).trans (show _ = some (Value.int .i64 0) from rfl)
  have v9 := (blk_cells hzz7 9).trans (show _ = some (Value.slice none 0 0) from rfl)
  have v10 := (blk_cells hzz7 10).trans (show _ = some (Value.slice none 0 0) from rfl)
  have u0 := blk_frozens hzz7 0
  have u1 := blk_frozens hzz7 1
  have u2 := blk_frozens hzz7 2
  have u3 := blk_frozens hzz7 3
  have u4 := blk_frozens hzz7 4
  have u5 := blk_frozens hzz7 5
  have u6 := blk_frozens hzz7 6
  have u7 := blk_frozens hzz7 7
  have u8 := blk_frozens hzz7 8
  have u9 := blk_frozens hzz7 9
  have u10 := blk_frozens hzz7 10
  have HE7 : Hid (EvIs w7 e ⟨a1, h.dn, c1, a4, h.sn, c4, a6, h.mn, c6⟩) := Lib.hid ⟨hd7, hs7, hm7⟩
  have HB07 := Lib.hid hb07
  have HZ7 := Lib.hid hzz7
  clear hx7 hb7 hd7 hs7 hm7 hb07 hzz7 x10 z10 hm5
  go_wp2_with fail
  have offs : ∀ M, M < w.heap.size + 2 → EvOff ⟨a1, h.dn, c1, a4, h.sn, c4, a6, h.mn, c6⟩ M := fun M hM => ⟨fun b o hh ee => by have := HN2.out b o hh ee; omega, fun b o hh ee => by have := HN4.out b o hh ee; omega, fun b o hh ee => by have := HN6.out b o hh ee; omega⟩
  refine bodyPost_ret (ownEventRet (N := w.heap.size + 1) (ev_sets HZ7.out _ _ _ _ _ _ _ _ _ _ _) rfl) rfl ?_
  exact ⟨_, rfl, HE7.out.besides (ev_besides (Besides.of_below (Below.refl _ _)) _ _ _ _ _ _ _ _ _ _ _) (offs _ (by omega)), rfl, rfl, rfl, fun M hM => offs M (by omega), ev_below HB07.out (Nat.le_succ _) _ _ _ _ _ _ _ _ _ _ _⟩
end Go.Proofs.YtakainogpokhgaaGreatDoor
