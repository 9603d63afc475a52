/- Walks of package event: copied, Set. (Printed by wip/tools/evy.py.) -/
import Derived.Test.YtakainogpokhgaaGreatDoorEvP
import Derived.Test.YtakainogpokhgaaGreatDoorOrd
namespace Go.Proofs.YtakainogpokhgaaGreatDoor
open Go.RowKit Lam

/-- the zero of an event -/
abbrev zEvC : Array Value := #[.string ⟨#[]⟩, .string ⟨#[]⟩, .int .i64 0, .int .i64 0, .string ⟨#[]⟩, .int .i64 0, .slice none 0 0, .int .i64 0, .int .i64 0, .slice none 0 0, .slice none 0 0]
theorem ev_sets6 {W : World} {N : Nat} {v0 v1 v2 v3 v4 v5 v6 v7 v8 v9 v10 : Value} {T : TypeId} (h : W.heap[N]? = some (.cells #[v0, v1, v2, v3, v4, v5, v6, v7, v8, v9, v10] T (0, 0))) (u0 u1 u2 u3 u4 u5 : Value) :
    ((((((W.setCell ⟨N, 0, none⟩ (u0)).setCell ⟨N, 1, none⟩ (u1)).setCell ⟨N, 2, none⟩ (u2)).setCell ⟨N, 3, none⟩ (u3)).setCell ⟨N, 4, none⟩ (u4)).setCell ⟨N, 5, none⟩ (u5)).heap[N]? = some (.cells #[u0, u1, u2, u3, u4, u5, v6, v7, v8, v9, v10] T (0, 0)) :=
  blk_sets (blk_sets (blk_sets (blk_sets (blk_sets (blk_sets h 0 u0) 1 u1) 2 u2) 3 u3) 4 u4) 5 u5
theorem ev_sets {W : World} {N : Nat} {v0 v1 v2 v3 v4 v5 v6 v7 v8 v9 v10 : Value} {T : TypeId} (h : W.heap[N]? = some (.cells #[v0, v1, v2, v3, v4, v5, v6, v7, v8, v9, v10] T (0, 0))) (u0 u1 u2 u3 u4 u5 u6 u7 u8 u9 u10 : Value) :
    (((((((((((W.setCell ⟨N, 0, none⟩ (u0)).setCell ⟨N, 1, none⟩ (u1)).setCell ⟨N, 2, none⟩ (u2)).setCell ⟨N, 3, none⟩ (u3)).setCell ⟨N, 4, none⟩ (u4)).setCell ⟨N, 5, none⟩ (u5)).setCell ⟨N, 6, none⟩ (u6)).setCell ⟨N, 7, none⟩ (u7)).setCell ⟨N, 8, none⟩ (u8)).setCell ⟨N, 9, none⟩ (u9)).setCell ⟨N, 10, none⟩ (u10)).heap[N]? = some (.cells #[u0, u1, u2, u3, u4, u5, u6, u7, u8, u9, u10] T (0, 0)) :=
  blk_sets (blk_sets (blk_sets (blk_sets (blk_sets (ev_sets6 h u0 u1 u2 u3 u4 u5) 6 u6) 7 u7) 8 u8) 9 u9) 10 u10
theorem ev_besides {W0 W : World} {N : Nat} (h : Besides N W0 W) (u0 u1 u2 u3 u4 u5 u6 u7 u8 u9 u10 : Value) :
    Besides N W0 (((((((((((W.setCell ⟨N, 0, none⟩ (u0)).setCell ⟨N, 1, none⟩ (u1)).setCell ⟨N, 2, none⟩ (u2)).setCell ⟨N, 3, none⟩ (u3)).setCell ⟨N, 4, none⟩ (u4)).setCell ⟨N, 5, none⟩ (u5)).setCell ⟨N, 6, none⟩ (u6)).setCell ⟨N, 7, none⟩ (u7)).setCell ⟨N, 8, none⟩ (u8)).setCell ⟨N, 9, none⟩ (u9)).setCell ⟨N, 10, none⟩ (u10)) :=
  ((((((((((h.set 0 _).set 1 _).set 2 _).set 3 _).set 4 _).set 5 _).set 6 _).set 7 _).set 8 _).set 9 _).set 10 _
theorem ev_below {W0 W : World} {N M : Nat} (h : Below N W0 W) (hM : N ≤ M) (u0 u1 u2 u3 u4 u5 u6 u7 u8 u9 u10 : Value) :
    Below N W0 (((((((((((W.setCell ⟨M, 0, none⟩ (u0)).setCell ⟨M, 1, none⟩ (u1)).setCell ⟨M, 2, none⟩ (u2)).setCell ⟨M, 3, none⟩ (u3)).setCell ⟨M, 4, none⟩ (u4)).setCell ⟨M, 5, none⟩ (u5)).setCell ⟨M, 6, none⟩ (u6)).setCell ⟨M, 7, none⟩ (u7)).setCell ⟨M, 8, none⟩ (u8)).setCell ⟨M, 9, none⟩ (u9)).setCell ⟨M, 10, none⟩ (u10)) :=
  ((((((((((h.setCell (p := ⟨M, 0, none⟩) hM _).setCell (p := ⟨M, 1, none⟩) hM _).setCell (p := ⟨M, 2, none⟩) hM _).setCell (p := ⟨M, 3, none⟩) hM _).setCell (p := ⟨M, 4, none⟩) hM _).setCell (p := ⟨M, 5, none⟩) hM _).setCell (p := ⟨M, 6, none⟩) hM _).setCell (p := ⟨M, 7, none⟩) hM _).setCell (p := ⟨M, 8, none⟩) hM _).setCell (p := ⟨M, 9, none⟩) hM _).setCell (p := ⟨M, 10, none⟩) hM _
theorem agg_run {W : World} {N : Nat} {T : TypeId} {u0 u1 u2 u3 u4 u5 u6 u7 u8 u9 u10 : Value} (hx : W.heap[N]? = some (.cells #[u0, u1, u2, u3, u4, u5, u6, u7, u8, u9, u10] T (0, 0))) (j : Nat) : W.cell? ⟨N, j, none⟩ = #[u0, u1, u2, u3, u4, u5, u6, u7, u8, u9, u10][j]? := blk_cells hx j
theorem copiedRet {W : World} {N : Nat} {u0 u1 u2 u3 u4 u5 u6 u7 u8 u9 u10 : Value} {tmps : Array Value} (hx : W.heap[N]? = some (.cells #[u0, u1, u2, u3, u4, u5, u6, u7, u8, u9, u10] 27 (0, 0))) (h2 : tmps.getD 2 undef = .pointer (some ⟨N, 0, none⟩)) :
    (results Tryz.f36 tmps).run Tryz.prog W = .ok (.agg #[u0, u1, u2, u3, u4, u5, u6, u7, u8, u9, u10]) W := by
  have y0 := blk_cells hx 0
  have y1 := blk_cells hx 1
  have y2 := blk_cells hx 2
  have y3 := blk_cells hx 3
  have y4 := blk_cells hx 4
  have y5 := blk_cells hx 5
  have y6 := blk_cells hx 6
  have y7 := blk_cells hx 7
  have y8 := blk_cells hx 8
  have y9 := blk_cells hx 9
  have y10 := blk_cells hx 10
  simp only [Array.getD_eq_getD_getElem?] at h2
  simp [results, Tryz.results36, go_sem, y0, y1, y2, y3, y4, y5, y6, y7, y8, y9, y10, h2]
theorem setRet {W : World} {N : Nat} {u0 u1 u2 u3 u4 u5 u6 u7 u8 u9 u10 ev : Value} {tmps : Array Value} (hx : W.heap[N]? = some (.cells #[u0, u1, u2, u3, u4, u5, u6, u7, u8, u9, u10] 27 (0, 0))) (h2 : tmps.getD 6 undef = .pointer (some ⟨N, 0, none⟩)) (h3 : tmps.getD 7 undef = ev) :
    (results Tryz.f13 tmps).run Tryz.prog W = .ok (.tuple #[.agg #[u0, u1, u2, u3, u4, u5, u6, u7, u8, u9, u10], ev]) W := by
  have y0 := blk_cells hx 0
  have y1 := blk_cells hx 1
  have y2 := blk_cells hx 2
  have y3 := blk_cells hx 3
  have y4 := blk_cells hx 4
  have y5 := blk_cells hx 5
  have y6 := blk_cells hx 6
  have y7 := blk_cells hx 7
  have y8 := blk_cells hx 8
  have y9 := blk_cells hx 9
  have y10 := blk_cells hx 10
  simp only [Array.getD_eq_getD_getElem?] at h2 h3
  simp [results, Tryz.results13, go_sem, y0, y1, y2, y3, y4, y5, y6, y7, y8, y9, y10, h2, h3]
theorem evReadRet {W : World} {N : Nat} {u0 u1 u2 u3 u4 u5 u6 u7 u8 u9 u10 ev : Value} {tmps : Array Value} (hx : W.heap[N]? = some (.cells #[u0, u1, u2, u3, u4, u5, u6, u7, u8, u9, u10] 27 (0, 0))) (h2 : tmps.getD 2 undef = .pointer (some ⟨N, 0, none⟩)) (h3 : tmps.getD 3 undef = ev) :
    (results Tryz.f9 tmps).run Tryz.prog W = .ok (.tuple #[.agg #[u0, u1, u2, u3, u4, u5, u6, u7, u8, u9, u10], ev]) W := by
  have y0 := blk_cells hx 0
  have y1 := blk_cells hx 1
  have y2 := blk_cells hx 2
  have y3 := blk_cells hx 3
  have y4 := blk_cells hx 4
  have y5 := blk_cells hx 5
  have y6 := blk_cells hx 6
  have y7 := blk_cells hx 7
  have y8 := blk_cells hx 8
  have y9 := blk_cells hx 9
  have y10 := blk_cells hx 10
  simp only [Array.getD_eq_getD_getElem?] at h2 h3
  simp [results, Tryz.results9, go_sem, y0, y1, y2, y3, y4, y5, y6, y7, y8, y9, y10, h2, h3]
/-- what copying answers -/
def CopyPost (e : Ev) (h : Hd) (w : World) (en : Ending) (w' : World) : Prop :=
  ∃ h', en = .returned (.agg (evC e h')) ∧ EvIs w' e h' ∧ h'.dn = h.dn ∧ h'.sn = h.sn ∧ h'.mn = h.mn ∧ (∀ M, M < w.heap.size → EvOff h' M) ∧ Below w.heap.size w w'
theorem own_new_at {w : World} {base n c sz : Nat} {e : TypeId} {a : Option Addr} {xs : List Value} (h : w.ownsRow base e sz (.slice a n c) n xs) : ∀ b off, 0 < n → a = some ⟨b, off, none⟩ → base ≤ b := fun b off hn e => by
  obtain ⟨g', cap, hv, hb, _⟩ := h.form hn
  injection hv with hv; rw [e] at hv; injection hv with hv; injection hv with hv; omega
/-- what is known of a world on the way through a copy's region: block N alone has turned, and holds cs -/
structure CpyW (N : Nat) (w1 W : World) (cs : Array Value) : Prop where
  bes : Besides N w1 W
  blk : W.heap[N]? = some (.cells cs 27 (0, 0))
theorem CpyW.set {N : Nat} {w1 W : World} {cs : Array Value} (h : CpyW N w1 W cs) (j : Nat) (u : Value) : CpyW N w1 (W.setCell ⟨N, j, none⟩ u) (cs.setIfInBounds j u) := ⟨h.bes.set j u, blk_sets h.blk j u⟩
theorem CpyW.below {N : Nat} {w1 W W' : World} {cs : Array Value} (h : CpyW N w1 W cs) (hb : Below W.heap.size W W') : CpyW N w1 W' cs :=
  ⟨h.bes.trans (Besides.of_below hb), (hb.block N (Array.getElem?_eq_some_iff.1 h.blk).1).trans h.blk⟩
theorem cloneInt_cpy {N : Nat} {w1 W : World} {cs : Array Value} {a : Option Addr} {n c : Nat} {l : List Int} (hC : CpyW N w1 W cs) (hd : Rd w1 1 a n (l.map (Value.int .i64))) (off : ∀ b o, 0 < n → a = some ⟨b, o, none⟩ → b ≠ N) (hn : n ≤ 10000000) :
    Calls Tryz.prog 74 #[.slice a n c] W fun en w' => ∃ a' c', en = .returned (.slice a' n c') ∧ CpyW N w1 w' cs ∧ Besides N W w' ∧ Rd w' 1 a' n (l.map (Value.int .i64)) ∧ (∀ b o, 0 < n → a' = some ⟨b, o, none⟩ → w1.heap.size ≤ b) := by
  refine (cloneInt_any a n c _ W hn (ints_one _) (hd.besides hC.bes off)).mono ?_
  rintro en w' ⟨v, rfl, own, hb⟩
  obtain ⟨a', c', rfl, _, _, hr⟩ := own_form own
  exact ⟨a', c', rfl, hC.below hb, Besides.of_below hb, hr, fun b o h e => Nat.le_trans hC.bes.size (own_new_at own b o h e)⟩
theorem cloneMove_cpy {N : Nat} {w1 W : World} {cs : Array Value} {a : Option Addr} {n c : Nat} {l : List (Int × Int)} (hC : CpyW N w1 W cs) (hd : Rd w1 2 a n (mvC l)) (off : ∀ b o, 0 < n → a = some ⟨b, o, none⟩ → b ≠ N) (hn : n ≤ 10000000) :
    Calls Tryz.prog 75 #[.slice a n c] W fun en w' => ∃ a' c', en = .returned (.slice a' n c') ∧ CpyW N w1 w' cs ∧ Besides N W w' ∧ Rd w' 2 a' n (mvC l) ∧ (∀ b o, 0 < n → a' = some ⟨b, o, none⟩ → w1.heap.size ≤ b) := by
  refine (cloneMove_any a n c _ W hn (mvC_one _) (hd.besides hC.bes off)).mono ?_
  rintro en w' ⟨v, rfl, own, hb⟩
  obtain ⟨a', c', rfl, _, _, hr⟩ := own_form own
  exact ⟨a', c', rfl, hC.below hb, Besides.of_below hb, hr, fun b o h e => Nat.le_trans hC.bes.size (own_new_at own b o h e)⟩
theorem Rd.drew {w : World} {sz n : Nat} {a : Option Addr} {xs : List Value} (h : Rd w sz a n xs) : Rd w.drew sz a n xs := h
/-- what the copy's region leaves -/
def CpyEnd (e : Ev) (dn sn mn N : Nat) (w1 : World) (W : World) : Prop :=
  ∃ h', CpyW N w1 W (evC e h') ∧ h'.dn = dn ∧ h'.sn = sn ∧ h'.mn = mn ∧ EvIs W e h' ∧ ∀ M, M < w1.heap.size → EvOff h' M
set_option maxRecDepth 100000 in set_option maxHeartbeats 2000000 in
theorem copied_any (e : Ev) (h : Hd) (w : World) (okd : h.dn ≤ 10000000) (oks : h.sn ≤ 10000000) (okm : h.mn ≤ 10000000) (hr : EvIs w e h) :
    Calls Tryz.prog 36 #[.agg (evC e h)] w (CopyPost e h w) := by
  have hb1 : Below w.heap.size w ((w.alloc (.cells (evC e h) 27)).alloc (.cells zEvC 27)) := ((Below.refl _ _).alloc (Nat.le_refl _) _).alloc (by simp) _
  have hx : EvAt ((w.alloc (.cells (evC e h) 27)).alloc (.cells zEvC 27)) w.heap.size e h := (Below.heap_alloc _ _ _ (by simp)).trans (heap_alloc_new w _)
  have hz : ((w.alloc (.cells (evC e h) 27)).alloc (.cells zEvC 27)).heap[w.heap.size + 1]? = some (.cells zEvC 27 (0, 0)) := by
    have := heap_alloc_new (w.alloc (.cells (evC e h) 27)) (.cells zEvC 27); simpa using this
  have hr1 := hr.up hb1
  have hZ : w.heap.size + 1 < ((w.alloc (.cells (evC e h) 27)).alloc (.cells zEvC 27)).heap.size := by simp
  have off := hr.off (N := w.heap.size) (Nat.le_refl _)
  obtain ⟨da, dn, dc, sa, sn, sc, ma, mn, mc⟩ := h
  simp only at *
  have hd := hr1.days.drew
  have hs := hr1.skips.drew
  have hm := hr1.moves.drew
  have o1 := off.d
  have o2 := off.s
  have o3 := off.m
  simp only at hd hs hm o1 o2 o3
  rw [show evC e ⟨da, dn, dc, sa, sn, sc, ma, mn, mc⟩ = #[.string (B e.id), .string (B e.title), .int .i64 e.start, .int .i64 e.long, .string (B e.rule.freq), .int .i64 e.rule.every, .slice da dn dc, .int .i64 e.rule.count, .int .i64 e.rule.till, .slice sa sn sc, .slice ma mn mc] from rfl] at *
  have HB1 := Lib.hid hb1
  have HZ := Lib.hid hz
  have HX := Lib.hid hx
  have y6 := (blk_cells hx 6).trans (show _ = some (Value.slice da dn dc) from rfl)
  have y9 := (blk_cells hx 9).trans (show _ = some (Value.slice sa sn sc) from rfl)
  have y10 := (blk_cells hx 10).trans (show _ = some (Value.slice ma mn mc) from rfl)
  have f6 := blk_frozens hx 6
  have f9 := blk_frozens hx 9
  have f10 := blk_frozens hx 10
  clear hx hz hr hr1 hb1
  go_enter Tryz.func36, Tryz.ntmps36
  go_upto_region 1 with fail
  generalize World.alloc (World.alloc w _) _ = w1 at *
  have hZd : w.heap.size < w1.drew.heap.size := by show w.heap.size < w1.heap.size; omega
  have hC0 : CpyW w.heap.size w1.drew w1.drew #[.string (B e.id), .string (B e.title), .int .i64 e.start, .int .i64 e.long, .string (B e.rule.freq), .int .i64 e.rule.every, .slice da dn dc, .int .i64 e.rule.count, .int .i64 e.rule.till, .slice sa sn sc, .slice ma mn mc] := ⟨Besides.of_below (Below.refl _ _), HX.out⟩
  go_cut [1, 2] (fun p q wx => p = .pointer (some ⟨w.heap.size, 0, none⟩) ∧ q = .pointer (some ⟨w.heap.size + 1, 0, none⟩) ∧ CpyEnd e dn sn mn w.heap.size w1.drew wx)
  case first =>
    refine wp_region_until (fun w' => w'.cell? ⟨w.heap.size, 6, none⟩ = some (.slice da dn dc) ∧ w'.cell? ⟨w.heap.size, 9, none⟩ = some (.slice sa sn sc) ∧ w'.cell? ⟨w.heap.size, 10, none⟩ = some (.slice ma mn mc)) 12 (by kernel_rfl) ?_
    have hS0 : w1.drew.cell? ⟨w.heap.size, 6, none⟩ = some (.slice da dn dc) ∧ w1.drew.cell? ⟨w.heap.size, 9, none⟩ = some (.slice sa sn sc) ∧ w1.drew.cell? ⟨w.heap.size, 10, none⟩ = some (.slice ma mn mc) := ⟨y6, y9, y10⟩
    refine wpAnyU_takeY (i := 0) (v := ?v0) rfl (by kernel_rfl) (by kernel_rfl) (by kernel_rfl) (by decide) (fun _ _ _ h => h) (Or.inl ⟨by rfl, ?y0⟩) (fun _ => hS0) ?r0
    case y0 => ((intro w _; go_simp); try with_reducible rfl)
    try simp only [Act.put, List.setIfInBounds_toArray, List.set_cons_zero, List.set_cons_succ]
    refine wpAnyU_takeY (i := 4) (v := ?v4) rfl (by kernel_rfl) (by kernel_rfl) (by kernel_rfl) (by decide) (fun _ _ _ h => h) (Or.inl ⟨by rfl, ?y4⟩) (fun _ => hS0) ?r4
    case y4 => ((intro w _; go_simp); try with_reducible rfl)
    try simp only [Act.put, List.setIfInBounds_toArray, List.set_cons_zero, List.set_cons_succ]
    refine wpAnyU_takeY (i := 7) (v := ?v7) rfl (by kernel_rfl) (by kernel_rfl) (by kernel_rfl) (by decide) (fun _ _ _ h => h) (Or.inl ⟨by rfl, ?y7⟩) (fun _ => hS0) ?r7
    case y7 => ((intro w _; go_simp); try with_reducible rfl)
    try simp only [Act.put, List.setIfInBounds_toArray, List.set_cons_zero, List.set_cons_succ]
    refine wpAnyU_takeY (i := 1) (v := ?v1) rfl (by kernel_rfl) (by kernel_rfl) (by kernel_rfl) (by decide) (fun _ _ _ h => h) (Or.inl ⟨by rfl, ?y1⟩) (fun _ => hS0) ?r1
    case y1 => ((intro w _; go_simp); try with_reducible rfl)
    try simp only [Act.put, List.setIfInBounds_toArray, List.set_cons_zero, List.set_cons_succ]
    refine wpAnyU_take (i := 2) (v := ?v2) rfl (by kernel_rfl) (by kernel_rfl) (by kernel_rfl) (by kernel_rfl) (by kernel_rfl) (by decide) (fun _ _ _ h => h) (Or.inl ⟨by rfl, ?y2⟩) hS0 ?r2
    case y2 => ((intro w hSw; (try dsimp only at hSw); go_simp); try with_reducible rfl)
    try simp only [Act.put, List.setIfInBounds_toArray, List.set_cons_zero, List.set_cons_succ]
    refine wpAnyU_take (i := 5) (v := ?v5) rfl (by kernel_rfl) (by kernel_rfl) (by kernel_rfl) (by kernel_rfl) (by kernel_rfl) (by decide) (fun _ _ _ h => h) (Or.inl ⟨by rfl, ?y5⟩) hS0 ?r5
    case y5 => ((intro w hSw; (try dsimp only at hSw); go_simp); try with_reducible rfl)
    try simp only [Act.put, List.setIfInBounds_toArray, List.set_cons_zero, List.set_cons_succ]
    refine wpAnyU_take (i := 8) (v := ?v8) rfl (by kernel_rfl) (by kernel_rfl) (by kernel_rfl) (by kernel_rfl) (by kernel_rfl) (by decide) (fun _ _ _ h => h) (Or.inl ⟨by rfl, ?y8⟩) hS0 ?r8
    case y8 => ((intro w hSw; (try dsimp only at hSw); go_simp); try with_reducible rfl)
    try simp only [Act.put, List.setIfInBounds_toArray, List.set_cons_zero, List.set_cons_succ]
    refine wpAnyU_ready (rs := [3]) (by kernel_rfl) (by simp) (AllReadyU.cons rfl (fun K hK => ?_) AllReadyU.nil)
    go_simp
    refine (cloneInt_cpy (c := dc) hC0 hd o1 okd).mono ?_
    rintro en w6 ⟨a6, c6, rfl, hC6, hB6, hr6, hn6⟩
    have y6 := (blk_cells hC6.blk 6).trans (show _ = some (Value.slice da dn dc) from rfl)
    have f6 := blk_frozens hC6.blk 6
    have y9 := (blk_cells hC6.blk 9).trans (show _ = some (Value.slice sa sn sc) from rfl)
    have f9 := blk_frozens hC6.blk 9
    have y10 := (blk_cells hC6.blk 10).trans (show _ = some (Value.slice ma mn mc) from rfl)
    have f10 := blk_frozens hC6.blk 10
    have hS6 : w6.cell? ⟨w.heap.size, 6, none⟩ = some (.slice da dn dc) ∧ w6.cell? ⟨w.heap.size, 9, none⟩ = some (.slice sa sn sc) ∧ w6.cell? ⟨w.heap.size, 10, none⟩ = some (.slice ma mn mc) := ⟨y6, y9, y10⟩
    try go_wp2_with fail
    refine hK.out _ _ (fun _ => hS6) ?_
    clear hK K
    try simp only [Act.put, List.setIfInBounds_toArray, List.set_cons_zero, List.set_cons_succ]
    refine wpAnyU_takeY (i := 10) (v := ?v10) rfl (by kernel_rfl) (by kernel_rfl) (by kernel_rfl) (by decide) (fun _ _ _ h => h) (Or.inl ⟨by rfl, ?y10⟩) (fun _ => hS6) ?r10
    case y10 => ((intro w _; go_simp); try with_reducible rfl)
    try simp only [Act.put, List.setIfInBounds_toArray, List.set_cons_zero, List.set_cons_succ]
    refine wpAnyU_takeY (i := 11) (v := ?v11) rfl (by kernel_rfl) (by kernel_rfl) (by kernel_rfl) (by decide) (fun _ _ _ h => h) (Or.inl ⟨by rfl, ?y11⟩) (fun _ => hS6) ?r11
    case y11 => ((intro w _; go_simp); try with_reducible rfl)
    try simp only [Act.put, List.setIfInBounds_toArray, List.set_cons_zero, List.set_cons_succ]
    refine wpAnyU_ready (rs := [6]) (by kernel_rfl) (by simp) (AllReadyU.cons rfl (fun K hK => ?_) AllReadyU.nil)
    go_simp
    refine (cloneInt_cpy (c := sc) hC6 hs o2 oks).mono ?_
    rintro en w7 ⟨a7, c7, rfl, hC7, hB7, hr7, hn7⟩
    have y6 := (blk_cells hC7.blk 6).trans (show _ = some (Value.slice da dn dc) from rfl)
    have f6 := blk_frozens hC7.blk 6
    have y9 := (blk_cells hC7.blk 9).trans (show _ = some (Value.slice sa sn sc) from rfl)
    have f9 := blk_frozens hC7.blk 9
    have y10 := (blk_cells hC7.blk 10).trans (show _ = some (Value.slice ma mn mc) from rfl)
    have f10 := blk_frozens hC7.blk 10
    have hS7 : w7.cell? ⟨w.heap.size, 6, none⟩ = some (.slice da dn dc) ∧ w7.cell? ⟨w.heap.size, 9, none⟩ = some (.slice sa sn sc) ∧ w7.cell? ⟨w.heap.size, 10, none⟩ = some (.slice ma mn mc) := ⟨y6, y9, y10⟩
    try go_wp2_with fail
    refine hK.out _ _ (fun _ => hS7) ?_
    clear hK K
    try simp only [Act.put, List.setIfInBounds_toArray, List.set_cons_zero, List.set_cons_succ]
    refine wpAnyU_ready (rs := [9]) (by kernel_rfl) (by simp) (AllReadyU.cons rfl (fun K hK => ?_) AllReadyU.nil)
    go_simp
    refine (cloneMove_cpy (c := mc) hC7 hm o3 okm).mono ?_
    rintro en w8 ⟨a8, c8, rfl, hC8, hB8, hr8, hn8⟩
    have y6 := (blk_cells hC8.blk 6).trans (show _ = some (Value.slice da dn dc) from rfl)
    have f6 := blk_frozens hC8.blk 6
    have y9 := (blk_cells hC8.blk 9).trans (show _ = some (Value.slice sa sn sc) from rfl)
    have f9 := blk_frozens hC8.blk 9
    have y10 := (blk_cells hC8.blk 10).trans (show _ = some (Value.slice ma mn mc) from rfl)
    have f10 := blk_frozens hC8.blk 10
    have hS8 : w8.cell? ⟨w.heap.size, 6, none⟩ = some (.slice da dn dc) ∧ w8.cell? ⟨w.heap.size, 9, none⟩ = some (.slice sa sn sc) ∧ w8.cell? ⟨w.heap.size, 10, none⟩ = some (.slice ma mn mc) := ⟨y6, y9, y10⟩
    try go_wp2_with fail
    refine hK.out _ _ (fun _ => hS8) ?_
    clear hK K
    try simp only [Act.put, List.setIfInBounds_toArray, List.set_cons_zero, List.set_cons_succ]
    refine wpAnyU_ready (rs := [12]) (by kernel_rfl) (by simp) (AllReadyU.cons rfl (fun K hK => ?_) AllReadyU.nil)
    go_simp
    refine hK.out _ _ (fun h => by simp at h) ?_
    clear hK K
    try simp only [Act.put, List.setIfInBounds_toArray, List.set_cons_zero, List.set_cons_succ]
    refine wpAnyU_takeY (i := 13) (v := ?v13) rfl (by kernel_rfl) (by kernel_rfl) (by kernel_rfl) (by decide) (fun _ _ _ h => h) (Or.inl ⟨by rfl, ?y13⟩) (fun h => by simp at h) ?r13
    case y13 => ((intro w _; go_simp); try with_reducible rfl)
    try simp only [Act.put, List.setIfInBounds_toArray, List.set_cons_zero, List.set_cons_succ]
    refine wpAnyU_ready (rs := [14]) (by kernel_rfl) (by simp) (AllReadyU.cons rfl (fun K hK => ?_) AllReadyU.nil)
    go_simp
    refine hK.out _ _ (fun h => by simp at h) ?_
    clear hK K
    try simp only [Act.put, List.setIfInBounds_toArray, List.set_cons_zero, List.set_cons_succ]
    refine wpAnyU_takeY (i := 15) (v := ?v15) rfl (by kernel_rfl) (by kernel_rfl) (by kernel_rfl) (by decide) (fun _ _ _ h => h) (Or.inl ⟨by rfl, ?y15⟩) (fun h => by simp at h) ?r15
    case y15 => ((intro w _; go_simp); try with_reducible rfl)
    try simp only [Act.put, List.setIfInBounds_toArray, List.set_cons_zero, List.set_cons_succ]
    refine wpAnyU_ready (rs := [16]) (by kernel_rfl) (by simp) (AllReadyU.cons rfl (fun K hK => ?_) AllReadyU.nil)
    go_simp
    refine hK.out _ _ (fun h => by simp at h) ?_
    clear hK K
    try simp only [Act.put, List.setIfInBounds_toArray, List.set_cons_zero, List.set_cons_succ]
    refine wpAnyU_done (by kernel_rfl) ?_ _
    go_wp2_with fail
    go_meet
    refine ⟨rfl, rfl, ⟨a6, dn, c6, a7, sn, c7, a8, mn, c8⟩, ((hC8.set 6 _).set 9 _).set 10 _, rfl, rfl, rfl, ⟨?_, ?_, ?_⟩, fun M hM => ⟨fun b o h e => by have := hn6 b o h e; omega, fun b o h e => by have := hn7 b o h e; omega, fun b o h e => by have := hn8 b o h e; omega⟩⟩
    · exact ((hr6.besides hB7 (fun b o h e => by have := hn6 b o h e; omega)).besides hB8 (fun b o h e => by have := hn6 b o h e; omega)).besides ((((Besides.of_below (Below.refl _ _)).set 6 _).set 9 _).set 10 _) (fun b o h e => by have := hn6 b o h e; omega)
    · exact (hr7.besides hB8 (fun b o h e => by have := hn7 b o h e; omega)).besides ((((Besides.of_below (Below.refl _ _)).set 6 _).set 9 _).set 10 _) (fun b o h e => by have := hn7 b o h e; omega)
    · exact hr8.besides ((((Besides.of_below (Below.refl _ _)).set 6 _).set 9 _).set 10 _) (fun b o h e => by have := hn8 b o h e; omega)
  case rest =>
    obtain ⟨rfl, rfl, h2, hC, e1, e2, e3, hE, hO⟩ := hcut
    have hx2 : EvAt wc w.heap.size e h2 := hC.blk
    have hz2 : wc.heap[w.heap.size + 1]? = some (.cells zEvC 27 (0, 0)) := (hC.bes.block _ (by show w.heap.size + 1 < w1.heap.size; exact hZ) (by omega)).trans HZ.out
    have hbc : Below w.heap.size w wc := Besides.below HB1.out.drew hC.bes (Nat.le_refl _) (Nat.le_of_lt hZd)
    have hoff := hO (w.heap.size + 1) hZ
    have HZ2 := Lib.hid hz2
    have HE := Lib.hid (And.intro e1 (And.intro e2 e3))
    have HHE := Lib.hid hE
    have HHO := Lib.hid hO
    have x0 := (blk_cells hx2 0).trans (show _ = some (Value.string (B e.id)) from rfl)
    have x1 := (blk_cells hx2 1).trans (show _ = some (Value.string (B e.title)) from rfl)
    have x2 := (blk_cells hx2 2).trans (show _ = some (Value.int .i64 e.start) from rfl)
    have x3 := (blk_cells hx2 3).trans (show _ = some (Value.int .i64 e.long) from rfl)
    have x4 := (blk_cells hx2 4).trans (show _ = some (Value.string (B e.rule.freq)) from rfl)
    have x5 := (blk_cells hx2 5).trans (show _ = some (Value.int .i64 e.rule.every) from rfl)
    have x6 := (blk_cells hx2 6).trans (show _ = some (Value.slice h2.da h2.dn h2.dc) from rfl)
    have x7 := (blk_cells hx2 7).trans (show _ = some (Value.int .i64 e.rule.count) from rfl)
    have x8 := (blk_cells hx2 8).trans (show _ = some (Value.int .i64 e.rule.till) from rfl)
    have x9 := (blk_cells hx2 9).trans (show _ = some (Value.slice h2.sa h2.sn h2.sc) from rfl)
    have x10 := (blk_cells hx2 10).trans (show _ = some (Value.slice h2.ma h2.mn h2.mc) from rfl)
    have v0 := (blk_cells hz2 0).trans (show _ = some (Value.string ⟨#[]⟩) from rfl)
    have v1 := (blk_cells hz2 1).trans (show _ = some (Value.string ⟨#[]⟩) from rfl)
    have v2 := (blk_cells hz2 2).trans (show _ = some (Value.int .i64 0) from rfl)
    have v3 := (blk_cells hz2 3).trans (show _ = some (Value.int .i64 0) from rfl)
    have v4 := (blk_cells hz2 4).trans (show _ = some (Value.string ⟨#[]⟩) from rfl)
    have v5 := (blk_cells hz2 5).trans (show _ = some (Value.int .i64 0) from rfl)
    have v6 := (blk_cells hz2 6).trans (show _ = some (Value.slice none 0 0) from rfl)
    have v7 := (blk_cells hz2 7).trans (show _ = some (Value.int .i64 0) from rfl)
    have v8 := (blk_cells hz2 8).trans (show _ = some (Value.int .i64 0) from rfl)
    have v9 := (blk_cells hz2 9).trans (show _ = some (Value.slice none 0 0) from rfl)
    have v10 := (blk_cells hz2 10).trans (show _ = some (Value.slice none 0 0) from rfl)
    have z0 := blk_frozens hz2 0
    have z1 := blk_frozens hz2 1
    have z2 := blk_frozens hz2 2
    have z3 := blk_frozens hz2 3
    have z4 := blk_frozens hz2 4
    have z5 := blk_frozens hz2 5
    have z6 := blk_frozens hz2 6
    have z7 := blk_frozens hz2 7
    have z8 := blk_frozens hz2 8
    have z9 := blk_frozens hz2 9
    have z10 := blk_frozens hz2 10
    clear hx2 hz2 hC e1 e2 e3 hE hO hC0 y6 y9 y10 f6 f9 f10 hd hs hm
    go_wp2_with fail
    refine bodyPost_ret (copiedRet (N := w.heap.size + 1) (ev_sets HZ2.out _ _ _ _ _ _ _ _ _ _ _) rfl) rfl ?_
    obtain ⟨e1, e2, e3⟩ := HE.out
    exact ⟨h2, rfl, HHE.out.besides (ev_besides (Besides.of_below (Below.refl _ _)) _ _ _ _ _ _ _ _ _ _ _) hoff, e1, e2, e3, fun M hM => HHO.out M (by show M < w1.heap.size; omega), ev_below hbc (Nat.le_succ _) _ _ _ _ _ _ _ _ _ _ _⟩
end Go.Proofs.YtakainogpokhgaaGreatDoor
