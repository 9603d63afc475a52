/- Walks of the reference's comparisons and of the law's own helpers. (Printed by wip/tools/lawa.py.) -/
import Derived.Test.YtakainogpokhgaaGreatDoorEvR
namespace Go.Proofs.YtakainogpokhgaaGreatDoor
open Go.RowKit Lam

set_option maxRecDepth 100000 in set_option maxHeartbeats 400000 in
theorem sameInts_any (l : List Int) (a1 a2 : Option Addr) (n1 c1 n2 c2 : Nat) (w : World) (hd1 : Rd w 1 a1 n1 (l.map (Value.int .i64))) (hd2 : Rd w 1 a2 n2 (l.map (Value.int .i64))) (hn : n1 ≤ 10000000) :
    Calls Tryz.prog 35 #[.slice a1 n1 c1, .slice a2 n2 c2] w fun e w' => e = .returned (.bool true) ∧ Below w.heap.size w w' := by
  have HL := Lib.hid hd1.len
  obtain rfl : n2 = n1 := hd2.len.symm.trans hd1.len
  go_enter Tryz.func35, Tryz.ntmps35
  go_wp2_with fail
  go_loopw [5] (fun i wr => ∃ k m : Nat, k ≤ n2 ∧ i = .int .i64 k ∧ wr = w.drewN m) (fun i _ => n2 - (intOf i).toNat)
  case atStart => exact ⟨0, 0, Nat.zero_le _, rfl, rfl⟩
  case round =>
    obtain ⟨k, m, hk, rfl, rfl⟩ := hrel
    by_cases hlt : k < n2
    · obtain ⟨b1, o1, rfl, hc1⟩ := hd1.at (by omega)
      obtain ⟨b2, o2, rfl, hc2⟩ := hd2.at (by omega)
      have hkl : k < l.length := by rw [HL.out]; exact hlt
      have q1 := hc1 k hkl
      have q2 := hc2 k hkl
      have i1 : (k : Int) < (n2 : Int) := by omega
      generalize l[k] = x at *
      clear hc1 hc2
      go_wp2_with fail
      go_quiet (fail)
      go_wp2
      go_roundw
      case rel => exact ⟨k + 1, _, by omega, by go_num, rfl⟩
      case measure => simp [intOf]; omega
    · go_wp2
      go_ret
      exact ⟨rfl, Below.draws _ _⟩
set_option maxRecDepth 100000 in set_option maxHeartbeats 400000 in
theorem sameRule_any (r : Rule) (a1 a2 : Option Addr) (n1 c1 n2 c2 : Nat) (w : World) (hd1 : Rd w 1 a1 n1 (r.days.map (Value.int .i64))) (hd2 : Rd w 1 a2 n2 (r.days.map (Value.int .i64))) (hn : n1 ≤ 10000000) :
    Calls Tryz.prog 34 #[.agg #[.string (B r.freq), .int .i64 r.every, .slice a1 n1 c1, .int .i64 r.count, .int .i64 r.till], .agg #[.string (B r.freq), .int .i64 r.every, .slice a2 n2 c2, .int .i64 r.count, .int .i64 r.till]] w fun e w' => e = .returned (.bool true) ∧ Below w.heap.size w w' := by
  have hb : Below w.heap.size w ((w.alloc (.cells #[.string (B r.freq), .int .i64 r.every, .slice a1 n1 c1, .int .i64 r.count, .int .i64 r.till] 24)).alloc (.cells #[.string (B r.freq), .int .i64 r.every, .slice a2 n2 c2, .int .i64 r.count, .int .i64 r.till] 24)) := ((Below.refl _ _).alloc (Nat.le_refl _) _).alloc (by simp) _
  have hx : ((w.alloc (.cells #[.string (B r.freq), .int .i64 r.every, .slice a1 n1 c1, .int .i64 r.count, .int .i64 r.till] 24)).alloc (.cells #[.string (B r.freq), .int .i64 r.every, .slice a2 n2 c2, .int .i64 r.count, .int .i64 r.till] 24)).heap[w.heap.size]? = some (.cells #[.string (B r.freq), .int .i64 r.every, .slice a1 n1 c1, .int .i64 r.count, .int .i64 r.till] 24 (0, 0)) := (Below.heap_alloc _ _ _ (by simp)).trans (heap_alloc_new w _)
  have hy : ((w.alloc (.cells #[.string (B r.freq), .int .i64 r.every, .slice a1 n1 c1, .int .i64 r.count, .int .i64 r.till] 24)).alloc (.cells #[.string (B r.freq), .int .i64 r.every, .slice a2 n2 c2, .int .i64 r.count, .int .i64 r.till] 24)).heap[w.heap.size + 1]? = some (.cells #[.string (B r.freq), .int .i64 r.every, .slice a2 n2 c2, .int .i64 r.count, .int .i64 r.till] 24 (0, 0)) := by
    have := heap_alloc_new (w.alloc (.cells #[.string (B r.freq), .int .i64 r.every, .slice a1 n1 c1, .int .i64 r.count, .int .i64 r.till] 24)) (.cells #[.string (B r.freq), .int .i64 r.every, .slice a2 n2 c2, .int .i64 r.count, .int .i64 r.till] 24); simpa using this
  have x0 := (blk_cells hx 0).trans (show _ = some (Value.string (B r.freq)) from rfl)
  have x1 := (blk_cells hx 1).trans (show _ = some (Value.int .i64 r.every) from rfl)
  have x2 := (blk_cells hx 2).trans (show _ = some (Value.slice a1 n1 c1) from rfl)
  have x3 := (blk_cells hx 3).trans (show _ = some (Value.int .i64 r.count) from rfl)
  have x4 := (blk_cells hx 4).trans (show _ = some (Value.int .i64 r.till) from rfl)
  have y0 := (blk_cells hy 0).trans (show _ = some (Value.string (B r.freq)) from rfl)
  have y1 := (blk_cells hy 1).trans (show _ = some (Value.int .i64 r.every) from rfl)
  have y2 := (blk_cells hy 2).trans (show _ = some (Value.slice a2 n2 c2) from rfl)
  have y3 := (blk_cells hy 3).trans (show _ = some (Value.int .i64 r.count) from rfl)
  have y4 := (blk_cells hy 4).trans (show _ = some (Value.int .i64 r.till) from rfl)
  have SI := Lib.hid (sameInts_any r.days a1 a2 n1 c1 n2 c2 _ (hd1.up hb) (hd2.up hb) hn)
  clear hx hy hd1 hd2
  go_enter Tryz.func34, Tryz.ntmps34
  go_upto_region 1 with fail
  generalize World.alloc (World.alloc w _) _ = w1 at *
  go_wp2_with fail
  refine SI.out.mono ?_
  rintro e w2 ⟨rfl, hb2⟩
  go_wp2_with fail
  go_ret
  exact ⟨rfl, Below.next hb hb2⟩
set_option maxRecDepth 100000 in set_option maxHeartbeats 1000000 in
theorem sameEvent_any (e : Ev) (g h : Hd) (w : World) (hg : EvIs w e g) (hh : EvIs w e h) (od : g.dn ≤ 10000000) (os : g.sn ≤ 10000000) (om : g.mn ≤ 10000000) :
    Calls Tryz.prog 11 #[.agg (evC e g), .agg (evC e h)] w fun en w' => en = .returned (.bool true) ∧ Below w.heap.size w w' := by
  have hb : Below w.heap.size w ((w.alloc (.cells (evC e g) 27)).alloc (.cells (evC e h) 27)) := ((Below.refl _ _).alloc (Nat.le_refl _) _).alloc (by simp) _
  have hx : EvAt ((w.alloc (.cells (evC e g) 27)).alloc (.cells (evC e h) 27)) w.heap.size e g := (Below.heap_alloc _ _ _ (by simp)).trans (heap_alloc_new w _)
  have hy : EvAt ((w.alloc (.cells (evC e g) 27)).alloc (.cells (evC e h) 27)) (w.heap.size + 1) e h := by
    have := heap_alloc_new (w.alloc (.cells (evC e g) 27)) (.cells (evC e h) 27); simpa [EvAt] using this
  have x0 := (blk_cells hx 0).trans (show _ = some (Value.string (B e.id)) from rfl)
  have x1 := (blk_cells hx 1).trans (show _ = some (Value.string (B e.title)) from rfl)
  have x2 := (blk_cells hx 2).trans (show _ = some (Value.int .i64 e.start) from rfl)
  have x3 := (blk_cells hx 3).trans (show _ = some (Value.int .i64 e.long) from rfl)
  have x4 := (blk_cells hx 4).trans (show _ = some (Value.string (B e.rule.freq)) from rfl)
  have x5 := (blk_cells hx 5).trans (show _ = some (Value.int .i64 e.rule.every) from rfl)
  have x6 := (blk_cells hx 6).trans (show _ = some (Value.slice g.da g.dn g.dc) from rfl)
  have x7 := (blk_cells hx 7).trans (show _ = some (Value.int .i64 e.rule.count) from rfl)
  have x8 := (blk_cells hx 8).trans (show _ = some (Value.int .i64 e.rule.till) from rfl)
  have x9 := (blk_cells hx 9).trans (show _ = some (Value.slice g.sa g.sn g.sc) from rfl)
  have x10 := (blk_cells hx 10).trans (show _ = some (Value.slice g.ma g.mn g.mc) from rfl)
  have y0 := (blk_cells hy 0).trans (show _ = some (Value.string (B e.id)) from rfl)
  have y1 := (blk_cells hy 1).trans (show _ = some (Value.string (B e.title)) from rfl)
  have y2 := (blk_cells hy 2).trans (show _ = some (Value.int .i64 e.start) from rfl)
  have y3 := (blk_cells hy 3).trans (show _ = some (Value.int .i64 e.long) from rfl)
  have y4 := (blk_cells hy 4).trans (show _ = some (Value.string (B e.rule.freq)) from rfl)
  have y5 := (blk_cells hy 5).trans (show _ = some (Value.int .i64 e.rule.every) from rfl)
  have y6 := (blk_cells hy 6).trans (show _ = some (Value.slice h.da h.dn h.dc) from rfl)
  have y7 := (blk_cells hy 7).trans (show _ = some (Value.int .i64 e.rule.count) from rfl)
  have y8 := (blk_cells hy 8).trans (show _ = some (Value.int .i64 e.rule.till) from rfl)
  have y9 := (blk_cells hy 9).trans (show _ = some (Value.slice h.sa h.sn h.sc) from rfl)
  have y10 := (blk_cells hy 10).trans (show _ = some (Value.slice h.ma h.mn h.mc) from rfl)
  have hg1 := hg.up hb
  have hh1 := hh.up hb
  have SR := Lib.hid (sameRule_any e.rule g.da h.da g.dn g.dc h.dn h.dc _ hg1.days hh1.days od)
  have SI := fun W (hB : Below _ _ W) => Lib.hid (sameInts_any e.skips g.sa h.sa g.sn g.sc h.sn h.sc W (hg1.skips.up hB) (hh1.skips.up hB) os)
  have HSI := Lib.hid SI
  have HM1 := Lib.hid hg1.moves
  have HM2 := Lib.hid hh1.moves
  have HL := Lib.hid hg1.moves.len2
  have hmn : g.mn = h.mn := hg1.moves.len2.symm.trans hh1.moves.len2
  have hmn1 : ((g.mn : Int) != (h.mn : Int)) = false := by rw [hmn]; simp
  have HMN := Lib.hid hmn
  rw [show evC e g = #[.string (B e.id), .string (B e.title), .int .i64 e.start, .int .i64 e.long, .string (B e.rule.freq), .int .i64 e.rule.every, .slice g.da g.dn g.dc, .int .i64 e.rule.count, .int .i64 e.rule.till, .slice g.sa g.sn g.sc, .slice g.ma g.mn g.mc] from rfl, show evC e h = #[.string (B e.id), .string (B e.title), .int .i64 e.start, .int .i64 e.long, .string (B e.rule.freq), .int .i64 e.rule.every, .slice h.da h.dn h.dc, .int .i64 e.rule.count, .int .i64 e.rule.till, .slice h.sa h.sn h.sc, .slice h.ma h.mn h.mc] from rfl] at *
  clear hx hy hg hh hg1 hh1 hmn SI
  go_enter Tryz.func11, Tryz.ntmps11
  go_upto_region 1 with fail
  generalize World.alloc (World.alloc w _) _ = w1 at *
  go_wp2_with fail
  refine SR.out.mono ?_
  rintro en w2 ⟨rfl, hb2⟩
  have CX := Lib.hid (And.intro x10 y10)
  replace x9 := Below.cells hb2 x9
  replace y9 := Below.cells hb2 y9
  replace x10 := Below.cells hb2 x10
  replace y10 := Below.cells hb2 y10
  have SI2 := HSI.out w2 hb2
  have HB2 := Lib.hid hb2
  clear x0 x1 x2 x3 x4 x5 x6 x7 x8 y0 y1 y2 y3 y4 y5 y6 y7 y8 hb2
  go_wp2_with fail
  refine SI2.out.mono ?_
  rintro en w3 ⟨rfl, hb3⟩
  have HB3 := Lib.hid (Below.next HB2.out hb3)
  replace x10 := Below.cells hb3 x10
  replace y10 := Below.cells hb3 y10
  clear x9 y9 hb3
  go_wp2_with fail
  go_loopw [5] (fun i wr => ∃ k m : Nat, k ≤ g.mn ∧ i = .int .i64 k ∧ wr = w3.drewN m) (fun i _ => g.mn - (intOf i).toNat)
  case atStart => exact ⟨0, 0, Nat.zero_le _, rfl, rfl⟩
  case round =>
    obtain ⟨k, m, hk, rfl, rfl⟩ := hrel
    by_cases hlt : k < g.mn
    · have m1 := HM1.out.up HB3.out
      have m2 := HM2.out.up HB3.out
      have hk2 : k < h.mn := by have := HMN.out; omega
      obtain ⟨b1, o1, e1, hc1⟩ := m1.at2 (by omega)
      obtain ⟨b2, o2, e2, hc2⟩ := m2.at2 (by omega)
      have hkl : k < e.moves.length := by rw [HL.out]; exact hlt
      obtain ⟨q1, q2⟩ := hc1 k hkl
      obtain ⟨q3, q4⟩ := hc2 k hkl
      have i1 : (k : Int) < (g.mn : Int) := by omega
      have i2 : (k : Int) < (h.mn : Int) := by omega
      rw [e1] at x10
      rw [e2] at y10
      generalize e.moves[k] = x at *
      clear hc1 hc2 m1 m2 e1 e2
      go_wp2_with fail
      go_quiet (fail)
      go_wp2
      go_roundw
      case rel => exact ⟨k + 1, _, by omega, by go_num, rfl⟩
      case measure => simp [intOf]; omega
    · go_wp2
      go_ret
      exact ⟨rfl, Below.next hb (Below.next HB3.out (Below.draws _ _))⟩
end Go.Proofs.YtakainogpokhgaaGreatDoor
