/- Walks of package event: Set. (Printed by wip/tools/evy.py.) -/
import Derived.Test.YtakainogpokhgaaGreatDoorEvY
namespace Go.Proofs.YtakainogpokhgaaGreatDoor
open Go.RowKit Lam

/-- what setting a field, or reading an event, answers -/
def EvPost (A : Nat → Addr) (t : Got Ev) (w : World) (en : Ending) (w' : World) : Prop :=
  Below w.heap.size w w' ∧ match t with
  | .ok y => ∃ h', en = .returned (.tuple #[.agg (evC y h'), .nilIface]) ∧ EvIs w' y h' ∧ EvOk y h' ∧ ∀ M, M < w.heap.size → EvOff h' M
  | .err c => c ≠ 0 ∧ en = .returned (.tuple #[.agg zEvC, Er (A c)])
set_option maxRecDepth 100000 in set_option maxHeartbeats 1000000 in
theorem set_any (i : Nat) (hi : i < 6) (e : Ev) (h : Hd) (t : Str) (ht : t.length ≤ 1000000) (w : World) {S : Nat → Bool} {A : Nat → Addr} (E : Env S w A) (h1 : S 1 = true) (h2 : S 2 = true) (h3 : S 3 = true) (h4 : S 4 = true) (h6 : S 6 = true) (h7 : S 7 = true) (h8 : S 8 = true) (ok : EvOk e h) (hr : EvIs w e h) :
    Calls Tryz.prog 13 #[.agg (evC e h), .string (B (fieldName i)), .string (B t)] w (EvPost A (setF e i t) w) := by
  have hb1 : Below w.heap.size w ((w.alloc (.cells (evC e h) 27)).alloc (.cells zEvC 27)) := ((Below.refl _ _).alloc (Nat.le_refl _) _).alloc (by simp) _
  have hx : EvAt ((w.alloc (.cells (evC e h) 27)).alloc (.cells zEvC 27)) w.heap.size e h := (Below.heap_alloc _ _ _ (by simp)).trans (heap_alloc_new w _)
  have hz : ((w.alloc (.cells (evC e h) 27)).alloc (.cells zEvC 27)).heap[w.heap.size + 1]? = some (.cells zEvC 27 (0, 0)) := by
    have := heap_alloc_new (w.alloc (.cells (evC e h) 27)) (.cells zEvC 27); simpa using this
  have hr1 := hr.up hb1
  have hZ : w.heap.size + 1 < ((w.alloc (.cells (evC e h) 27)).alloc (.cells zEvC 27)).heap.size := by simp
  have C := copied_any e h _ ok.dn ok.sn ok.mn hr1
  rw [show evC e h = #[.string (B e.id), .string (B e.title), .int .i64 e.start, .int .i64 e.long, .string (B e.rule.freq), .int .i64 e.rule.every, .slice h.da h.dn h.dc, .int .i64 e.rule.count, .int .i64 e.rule.till, .slice h.sa h.sn h.sc, .slice h.ma h.mn h.mc] from rfl] at *
  have x0 := (blk_cells hx 0).trans (show _ = some (Value.string (B e.id)) from rfl)
  have x1 := (blk_cells hx 1).trans (show _ = some (Value.string (B e.title)) from rfl)
  have x2 := (blk_cells hx 2).trans (show _ = some (Value.int .i64 e.start) from rfl)
  have x3 := (blk_cells hx 3).trans (show _ = some (Value.int .i64 e.long) from rfl)
  have x4 := (blk_cells hx 4).trans (show _ = some (Value.string (B e.rule.freq)) from rfl)
  have x5 := (blk_cells hx 5).trans (show _ = some (Value.int .i64 e.rule.every) from rfl)
  have x6 := (blk_cells hx 6).trans (show _ = some (Value.slice h.da h.dn h.dc) from rfl)
  have x7 := (blk_cells hx 7).trans (show _ = some (Value.int .i64 e.rule.count) from rfl)
  have x8 := (blk_cells hx 8).trans (show _ = some (Value.int .i64 e.rule.till) from rfl)
  have x9 := (blk_cells hx 9).trans (show _ = some (Value.slice h.sa h.sn h.sc) from rfl)
  have x10 := (blk_cells hx 10).trans (show _ = some (Value.slice h.ma h.mn h.mc) from rfl)
  have HX := Lib.hid hx
  have HZ := Lib.hid hz
  have HB1 := Lib.hid hb1
  clear hx hz hr hr1 hb1
  go_enter Tryz.func13, Tryz.ntmps13
  go_upto_region 1 with fail
  generalize World.alloc (World.alloc w _) _ = w1 at *
  go_wp2_with fail
  refine C.mono ?_
  rintro en w2 ⟨g, rfl, hE2, e1, e2, e3, hO2, hb2⟩
  rw [show evC e g = #[.string (B e.id), .string (B e.title), .int .i64 e.start, .int .i64 e.long, .string (B e.rule.freq), .int .i64 e.rule.every, .slice g.da g.dn g.dc, .int .i64 e.rule.count, .int .i64 e.rule.till, .slice g.sa g.sn g.sc, .slice g.ma g.mn g.mc] from rfl]
  have hx2 : EvAt w2 w.heap.size e h := (hb2.block _ (by omega)).trans HX.out
  have hz2 := (hb2.block (w.heap.size + 1) hZ).trans HZ.out
  have hy : EvAt (((((((((((w2.setCell ⟨w.heap.size, 0, none⟩ (.string (B e.id))).setCell ⟨w.heap.size, 1, none⟩ (.string (B e.title))).setCell ⟨w.heap.size, 2, none⟩ (.int .i64 e.start)).setCell ⟨w.heap.size, 3, none⟩ (.int .i64 e.long)).setCell ⟨w.heap.size, 4, none⟩ (.string (B e.rule.freq))).setCell ⟨w.heap.size, 5, none⟩ (.int .i64 e.rule.every)).setCell ⟨w.heap.size, 6, none⟩ (.slice g.da g.dn g.dc)).setCell ⟨w.heap.size, 7, none⟩ (.int .i64 e.rule.count)).setCell ⟨w.heap.size, 8, none⟩ (.int .i64 e.rule.till)).setCell ⟨w.heap.size, 9, none⟩ (.slice g.sa g.sn g.sc)).setCell ⟨w.heap.size, 10, none⟩ (.slice g.ma g.mn g.mc)) w.heap.size e g := ev_sets hx2 _ _ _ _ _ _ _ _ _ _ _
  have hb3 : Besides w.heap.size w2 (((((((((((w2.setCell ⟨w.heap.size, 0, none⟩ (.string (B e.id))).setCell ⟨w.heap.size, 1, none⟩ (.string (B e.title))).setCell ⟨w.heap.size, 2, none⟩ (.int .i64 e.start)).setCell ⟨w.heap.size, 3, none⟩ (.int .i64 e.long)).setCell ⟨w.heap.size, 4, none⟩ (.string (B e.rule.freq))).setCell ⟨w.heap.size, 5, none⟩ (.int .i64 e.rule.every)).setCell ⟨w.heap.size, 6, none⟩ (.slice g.da g.dn g.dc)).setCell ⟨w.heap.size, 7, none⟩ (.int .i64 e.rule.count)).setCell ⟨w.heap.size, 8, none⟩ (.int .i64 e.rule.till)).setCell ⟨w.heap.size, 9, none⟩ (.slice g.sa g.sn g.sc)).setCell ⟨w.heap.size, 10, none⟩ (.slice g.ma g.mn g.mc)) := ev_besides (Besides.of_below (Below.refl _ _)) _ _ _ _ _ _ _ _ _ _ _
  replace x0 := (blk_cells hx2 0).trans (show _ = some (Value.string (B e.id)) from rfl)
  replace x1 := (blk_cells hx2 1).trans (show _ = some (Value.string (B e.title)) from rfl)
  replace x2 := (blk_cells hx2 2).trans (show _ = some (Value.int .i64 e.start) from rfl)
  replace x3 := (blk_cells hx2 3).trans (show _ = some (Value.int .i64 e.long) from rfl)
  replace x4 := (blk_cells hx2 4).trans (show _ = some (Value.string (B e.rule.freq)) from rfl)
  replace x5 := (blk_cells hx2 5).trans (show _ = some (Value.int .i64 e.rule.every) from rfl)
  replace x6 := (blk_cells hx2 6).trans (show _ = some (Value.slice h.da h.dn h.dc) from rfl)
  replace x7 := (blk_cells hx2 7).trans (show _ = some (Value.int .i64 e.rule.count) from rfl)
  replace x8 := (blk_cells hx2 8).trans (show _ = some (Value.int .i64 e.rule.till) from rfl)
  replace x9 := (blk_cells hx2 9).trans (show _ = some (Value.slice h.sa h.sn h.sc) from rfl)
  replace x10 := (blk_cells hx2 10).trans (show _ = some (Value.slice h.ma h.mn h.mc) from rfl)
  have z0 := blk_frozens hx2 0
  have z1 := blk_frozens hx2 1
  have z2 := blk_frozens hx2 2
  have z3 := blk_frozens hx2 3
  have z4 := blk_frozens hx2 4
  have z5 := blk_frozens hx2 5
  have z6 := blk_frozens hx2 6
  have z7 := blk_frozens hx2 7
  have z8 := blk_frozens hx2 8
  have z9 := blk_frozens hx2 9
  have z10 := blk_frozens hx2 10
  have HY := Lib.hid hy
  have HZ2 := Lib.hid hz2
  have HB2 := Lib.hid hb2
  have HB3 := Lib.hid hb3
  have HE2 := Lib.hid hE2
  have HO2 := Lib.hid hO2
  have HEE := Lib.hid (And.intro e1 (And.intro e2 e3))
  clear hx2 hz2 hy hb2 hb3 hE2 hO2 C e1 e2 e3
  go_upto_region 2 with fail
  generalize (((((((((((w2.setCell ⟨w.heap.size, 0, none⟩ (.string (B e.id))).setCell ⟨w.heap.size, 1, none⟩ (.string (B e.title))).setCell ⟨w.heap.size, 2, none⟩ (.int .i64 e.start)).setCell ⟨w.heap.size, 3, none⟩ (.int .i64 e.long)).setCell ⟨w.heap.size, 4, none⟩ (.string (B e.rule.freq))).setCell ⟨w.heap.size, 5, none⟩ (.int .i64 e.rule.every)).setCell ⟨w.heap.size, 6, none⟩ (.slice g.da g.dn g.dc)).setCell ⟨w.heap.size, 7, none⟩ (.int .i64 e.rule.count)).setCell ⟨w.heap.size, 8, none⟩ (.int .i64 e.rule.till)).setCell ⟨w.heap.size, 9, none⟩ (.slice g.sa g.sn g.sc)).setCell ⟨w.heap.size, 10, none⟩ (.slice g.ma g.mn g.mc)) = w3 at *
  obtain ⟨e1, e2, e3⟩ := HEE.out
  have hO3 : EvOff g w.heap.size := HO2.out _ (by omega)
  have hE3 : EvIs w3 e g := HE2.out.besides HB3.out hO3
  have ok3 : EvOk e g := ⟨ok.title, by rw [e1]; exact ok.dn, by rw [e2]; exact ok.sn, by rw [e3]; exact ok.mn⟩
  have hb03 : Below w.heap.size w w3 := Besides.below (HB1.out.trans (HB2.out.mono (by omega))) HB3.out (Nat.le_refl _) (by have := HB2.out.size; omega)
  have P := put_any i hi e g w.heap.size t ht w3 (E.up hb03) h1 h2 h3 h4 h8 ok3 HY.out hE3 hO3
  have hw3 : w.heap.size + 1 < w3.heap.size := by have := HB2.out.size; have := HB3.out.size; omega
  have HP := Lib.hid P
  have HB03 := Lib.hid hb03
  clear P e1 e2 e3 hE3 hb03 x0 x1 x2 x3 x4 x5 x6 x7 x8 x9 x10 z0 z1 z2 z3 z4 z5 z6 z7 z8 z9 z10
  generalize B (fieldName i) = fn at *
  go_wp2_with fail
  refine HP.out.mono ?_
  have HSF : Hid (setF e i t = match putF e i t with | .ok x => checked x | .err c => .err c) := Lib.hid rfl
  cases hp : putF e i t with
  | err c =>
    rintro en w4 ⟨hbs, hc, rfl⟩
    have T : Hid (setF e i t = .err c) := Lib.hid (by rw [HSF.out, hp])
    have hz4 := (hbs.block (w.heap.size + 1) hw3 (by omega)).trans ((HB3.out.block (w.heap.size + 1) (by have := HB2.out.size; omega) (by omega)).trans HZ2.out)
    have hb4 := Besides.below HB03.out hbs (Nat.le_refl _) (by omega)
    have v0 := (blk_cells hz4 0).trans (show _ = some (Value.string ⟨#[]⟩) from rfl)
    have v1 := (blk_cells hz4 1).trans (show _ = some (Value.string ⟨#[]⟩) from rfl)
    have v2 := (blk_cells hz4 2).trans (show _ = some (Value.int .i64 0) from rfl)
    have v3 := (blk_cells hz4 3).trans (show _ = some (Value.int .i64 0) from rfl)
    have v4 := (blk_cells hz4 4).trans (show _ = some (Value.string ⟨#[]⟩) from rfl)
    have v5 := (blk_cells hz4 5).trans (show _ = some (Value.int .i64 0) from rfl)
    have v6 := (blk_cells hz4 6).trans (show _ = some (Value.slice none 0 0) from rfl)
    have v7 := (blk_cells hz4 7).trans (show _ = some (Value.int .i64 0) from rfl)
    have v8 := (blk_cells hz4 8).trans (show _ = some (Value.int .i64 0) from rfl)
    have v9 := (blk_cells hz4 9).trans (show _ = some (Value.slice none 0 0) from rfl)
    have v10 := (blk_cells hz4 10).trans (show _ = some (Value.slice none 0 0) from rfl)
    have z0 := blk_frozens hz4 0
    have z1 := blk_frozens hz4 1
    have z2 := blk_frozens hz4 2
    have z3 := blk_frozens hz4 3
    have z4 := blk_frozens hz4 4
    have z5 := blk_frozens hz4 5
    have z6 := blk_frozens hz4 6
    have z7 := blk_frozens hz4 7
    have z8 := blk_frozens hz4 8
    have z9 := blk_frozens hz4 9
    have z10 := blk_frozens hz4 10
    have HZ4 := Lib.hid hz4
    have HB4 := Lib.hid hb4
    have HC := Lib.hid hc
    clear hz4 hb4 hbs hp hc
    go_wp2_with fail
    refine bodyPost_ret (setRet (N := w.heap.size + 1) (ev_sets HZ4.out _ _ _ _ _ _ _ _ _ _ _) rfl rfl) rfl ?_
    rw [T.out]
    exact ⟨ev_below HB4.out (Nat.le_succ _) _ _ _ _ _ _ _ _ _ _ _, HC.out, rfl⟩
  | ok y =>
    rintro en w4 ⟨hbs, rfl, k, hx4, hE4, hO4, ok4⟩
    have hz4 := (hbs.block (w.heap.size + 1) hw3 (by omega)).trans ((HB3.out.block (w.heap.size + 1) (by have := HB2.out.size; omega) (by omega)).trans HZ2.out)
    have hb4 := Besides.below HB03.out hbs (Nat.le_refl _) (by omega)
    have K := evCheck_any y k w4 ok4 hE4 (E.up hb4) h1 h2 h3 h4 h6 h7 h8
    have hw4 : w.heap.size + 1 < w4.heap.size := by have := hbs.size; omega
    rw [show evC y k = #[.string (B y.id), .string (B y.title), .int .i64 y.start, .int .i64 y.long, .string (B y.rule.freq), .int .i64 y.rule.every, .slice k.da k.dn k.dc, .int .i64 y.rule.count, .int .i64 y.rule.till, .slice k.sa k.sn k.sc, .slice k.ma k.mn k.mc] from rfl] at K
    have x0 := (blk_cells hx4 0).trans (show _ = some (Value.string (B y.id)) from rfl)
    have x1 := (blk_cells hx4 1).trans (show _ = some (Value.string (B y.title)) from rfl)
    have x2 := (blk_cells hx4 2).trans (show _ = some (Value.int .i64 y.start) from rfl)
    have x3 := (blk_cells hx4 3).trans (show _ = some (Value.int .i64 y.long) from rfl)
    have x4 := (blk_cells hx4 4).trans (show _ = some (Value.string (B y.rule.freq)) from rfl)
    have x5 := (blk_cells hx4 5).trans (show _ = some (Value.int .i64 y.rule.every) from rfl)
    have x6 := (blk_cells hx4 6).trans (show _ = some (Value.slice k.da k.dn k.dc) from rfl)
    have x7 := (blk_cells hx4 7).trans (show _ = some (Value.int .i64 y.rule.count) from rfl)
    have x8 := (blk_cells hx4 8).trans (show _ = some (Value.int .i64 y.rule.till) from rfl)
    have x9 := (blk_cells hx4 9).trans (show _ = some (Value.slice k.sa k.sn k.sc) from rfl)
    have x10 := (blk_cells hx4 10).trans (show _ = some (Value.slice k.ma k.mn k.mc) from rfl)
    have HX4 := Lib.hid hx4
    have HZ4 := Lib.hid hz4
    have HB4 := Lib.hid hb4
    have HE4 := Lib.hid hE4
    have HO4 := Lib.hid hO4
    have HK := Lib.hid K
    clear hz4 hb4 hbs hx4 hE4 hO4 K
    go_wp2_with fail
    refine HK.out.mono ?_
    rintro en w5 ⟨rfl, hb5⟩
    have hx5 : EvAt w5 w.heap.size y k := (hb5.block _ (by omega)).trans HX4.out
    have hz5 := (hb5.block (w.heap.size + 1) hw4).trans HZ4.out
    replace x0 := (blk_cells hx5 0).trans (show _ = some (Value.string (B y.id)) from rfl)
    replace x1 := (blk_cells hx5 1).trans (show _ = some (Value.string (B y.title)) from rfl)
    replace x2 := (blk_cells hx5 2).trans (show _ = some (Value.int .i64 y.start) from rfl)
    replace x3 := (blk_cells hx5 3).trans (show _ = some (Value.int .i64 y.long) from rfl)
    replace x4 := (blk_cells hx5 4).trans (show _ = some (Value.string (B y.rule.freq)) from rfl)
    replace x5 := (blk_cells hx5 5).trans (show _ = some (Value.int .i64 y.rule.every) from rfl)
    replace x6 := (blk_cells hx5 6).trans (show _ = some (Value.slice k.da k.dn k.dc) from rfl)
    replace x7 := (blk_cells hx5 7).trans (show _ = some (Value.int .i64 y.rule.count) from rfl)
    replace x8 := (blk_cells hx5 8).trans (show _ = some (Value.int .i64 y.rule.till) from rfl)
    replace x9 := (blk_cells hx5 9).trans (show _ = some (Value.slice k.sa k.sn k.sc) from rfl)
    replace x10 := (blk_cells hx5 10).trans (show _ = some (Value.slice k.ma k.mn k.mc) from rfl)
    have v0 := (blk_cells hz5 0).trans (show _ = some (Value.string ⟨#[]⟩) from rfl)
    have v1 := (blk_cells hz5 1).trans (show _ = some (Value.string ⟨#[]⟩) from rfl)
    have v2 := (blk_cells hz5 2).trans (show _ = some (Value.int .i64 0) from rfl)
    have v3 := (blk_cells hz5 3).trans (show _ = some (Value.int .i64 0) from rfl)
    have v4 := (blk_cells hz5 4).trans (show _ = some (Value.string ⟨#[]⟩) from rfl)
    have v5 := (blk_cells hz5 5).trans (show _ = some (Value.int .i64 0) from rfl)
    have v6 := (blk_cells hz5 6).trans (show _ = some (Value.slice none 0 0) from rfl)
    have v7 := (blk_cells hz5 7).trans (show _ = some (Value.int .i64 0) from rfl)
    have v8 := (blk_cells hz5 8).trans (show _ = some (Value.int .i64 0) from rfl)
    have v9 := (blk_cells hz5 9).trans (show _ = some (Value.slice none 0 0) from rfl)
    have v10 := (blk_cells hz5 10).trans (show _ = some (Value.slice none 0 0) from rfl)
    have z0 := blk_frozens hz5 0
    have z1 := blk_frozens hz5 1
    have z2 := blk_frozens hz5 2
    have z3 := blk_frozens hz5 3
    have z4 := blk_frozens hz5 4
    have z5 := blk_frozens hz5 5
    have z6 := blk_frozens hz5 6
    have z7 := blk_frozens hz5 7
    have z8 := blk_frozens hz5 8
    have z9 := blk_frozens hz5 9
    have z10 := blk_frozens hz5 10
    have HZ5 := Lib.hid hz5
    have HB5 := Lib.hid (HB4.out.trans (hb5.mono (by omega)))
    have HE5 := Lib.hid (HE4.out.up hb5)
    clear hx5 hz5 hb5
    by_cases hc : evErr y = 0
    · have T : Hid (setF e i t = .ok y) := Lib.hid (by rw [HSF.out, hp]; simp [checked, hc])
      rw [hc, errV_zero]
      clear hp hc
      go_wp2_with fail
      refine bodyPost_ret (setRet (N := w.heap.size + 1) (ev_sets HZ5.out _ _ _ _ _ _ _ _ _ _ _) rfl rfl) rfl ?_
      rw [T.out]
      have off : ∀ M, M < w.heap.size → EvOff k M := fun M hM => HO4.out M (by omega) (HO2.out M (by omega))
      have offN : EvOff k (w.heap.size + 1) := HO4.out _ hw3 (HO2.out _ hZ)
      exact ⟨ev_below HB5.out (Nat.le_succ _) _ _ _ _ _ _ _ _ _ _ _, k, rfl, HE5.out.besides (ev_besides (Besides.of_below (Below.refl _ _)) _ _ _ _ _ _ _ _ _ _ _) offN, ok4, off⟩
    · have T : Hid (setF e i t = .err (evErr y)) := Lib.hid (by rw [HSF.out, hp]; simp [checked, hc])
      have HC := Lib.hid hc
      rw [errV_pos hc]
      clear hp hc
      go_wp2_with fail
      refine bodyPost_ret (setRet (N := w.heap.size + 1) (ev_sets HZ5.out _ _ _ _ _ _ _ _ _ _ _) rfl rfl) rfl ?_
      rw [T.out]
      exact ⟨ev_below HB5.out (Nat.le_succ _) _ _ _ _ _ _ _ _ _ _ _, HC.out, rfl⟩
end Go.Proofs.YtakainogpokhgaaGreatDoor
