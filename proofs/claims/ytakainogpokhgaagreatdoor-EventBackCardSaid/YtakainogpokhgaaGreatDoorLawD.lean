/- The walk of lammastidelaw1.EventBack. (Printed by wip/tools/lawd.py.) -/
import Derived.Test.YtakainogpokhgaaGreatDoorLawC
namespace Go.Proofs.YtakainogpokhgaaGreatDoor
open Go.RowKit Lam

/-- the cells of two events' variables, and one more -/
abbrev Cx2 (w : World) (N M : Nat) (a b : Ev) (ga gb : Hd) (p : Addr) (v : Value) : Prop :=
  w.cell? ⟨N, 0, none⟩ = some (.string (B a.id)) ∧ w.cell? ⟨N, 1, none⟩ = some (.string (B a.title)) ∧ w.cell? ⟨N, 2, none⟩ = some (.int .i64 a.start) ∧ w.cell? ⟨N, 3, none⟩ = some (.int .i64 a.long) ∧ w.cell? ⟨N, 4, none⟩ = some (.string (B a.rule.freq)) ∧ w.cell? ⟨N, 5, none⟩ = some (.int .i64 a.rule.every) ∧ w.cell? ⟨N, 6, none⟩ = some (.slice ga.da ga.dn ga.dc) ∧ w.cell? ⟨N, 7, none⟩ = some (.int .i64 a.rule.count) ∧ w.cell? ⟨N, 8, none⟩ = some (.int .i64 a.rule.till) ∧ w.cell? ⟨N, 9, none⟩ = some (.slice ga.sa ga.sn ga.sc) ∧ w.cell? ⟨N, 10, none⟩ = some (.slice ga.ma ga.mn ga.mc) ∧ w.cell? ⟨M, 0, none⟩ = some (.string (B b.id)) ∧ w.cell? ⟨M, 1, none⟩ = some (.string (B b.title)) ∧ w.cell? ⟨M, 2, none⟩ = some (.int .i64 b.start) ∧ w.cell? ⟨M, 3, none⟩ = some (.int .i64 b.long) ∧ w.cell? ⟨M, 4, none⟩ = some (.string (B b.rule.freq)) ∧ w.cell? ⟨M, 5, none⟩ = some (.int .i64 b.rule.every) ∧ w.cell? ⟨M, 6, none⟩ = some (.slice gb.da gb.dn gb.dc) ∧ w.cell? ⟨M, 7, none⟩ = some (.int .i64 b.rule.count) ∧ w.cell? ⟨M, 8, none⟩ = some (.int .i64 b.rule.till) ∧ w.cell? ⟨M, 9, none⟩ = some (.slice gb.sa gb.sn gb.sc) ∧ w.cell? ⟨M, 10, none⟩ = some (.slice gb.ma gb.mn gb.mc) ∧ w.cell? p = some v
theorem Cx2.up {w w' : World} {N M : Nat} {a b : Ev} {ga gb : Hd} {p : Addr} {v : Value} (hb : Below w.heap.size w w') (h : Cx2 w N M a b ga gb p v) : Cx2 w' N M a b ga gb p v :=
  ⟨Below.cells hb h.1, Below.cells hb h.2.1, Below.cells hb h.2.2.1, Below.cells hb h.2.2.2.1, Below.cells hb h.2.2.2.2.1, Below.cells hb h.2.2.2.2.2.1, Below.cells hb h.2.2.2.2.2.2.1, Below.cells hb h.2.2.2.2.2.2.2.1, Below.cells hb h.2.2.2.2.2.2.2.2.1, Below.cells hb h.2.2.2.2.2.2.2.2.2.1, Below.cells hb h.2.2.2.2.2.2.2.2.2.2.1, Below.cells hb h.2.2.2.2.2.2.2.2.2.2.2.1, Below.cells hb h.2.2.2.2.2.2.2.2.2.2.2.2.1, Below.cells hb h.2.2.2.2.2.2.2.2.2.2.2.2.2.1, Below.cells hb h.2.2.2.2.2.2.2.2.2.2.2.2.2.2.1, Below.cells hb h.2.2.2.2.2.2.2.2.2.2.2.2.2.2.2.1, Below.cells hb h.2.2.2.2.2.2.2.2.2.2.2.2.2.2.2.2.1, Below.cells hb h.2.2.2.2.2.2.2.2.2.2.2.2.2.2.2.2.2.1, Below.cells hb h.2.2.2.2.2.2.2.2.2.2.2.2.2.2.2.2.2.2.1, Below.cells hb h.2.2.2.2.2.2.2.2.2.2.2.2.2.2.2.2.2.2.2.1, Below.cells hb h.2.2.2.2.2.2.2.2.2.2.2.2.2.2.2.2.2.2.2.2.1, Below.cells hb h.2.2.2.2.2.2.2.2.2.2.2.2.2.2.2.2.2.2.2.2.2.1, Below.cells hb h.2.2.2.2.2.2.2.2.2.2.2.2.2.2.2.2.2.2.2.2.2.2⟩

theorem Cx2.besides {w w' : World} {N M R : Nat} {a b : Ev} {ga gb : Hd} {p : Addr} {v : Value} (hb : Besides R w w') (hN : N ≠ R) (hM : M ≠ R) (hp : p.block ≠ R) (h : Cx2 w N M a b ga gb p v) : Cx2 w' N M a b ga gb p v := by
  have key : ∀ (q : Addr) (u : Value), q.block ≠ R → w.cell? q = some u → w'.cell? q = some u := fun q u hq hc => by
    have h2 := hb.block q.block (cell_lt hc) hq
    unfold World.cell? at hc ⊢
    rw [h2]; exact hc
  exact ⟨key _ _ hN h.1, key _ _ hN h.2.1, key _ _ hN h.2.2.1, key _ _ hN h.2.2.2.1, key _ _ hN h.2.2.2.2.1, key _ _ hN h.2.2.2.2.2.1, key _ _ hN h.2.2.2.2.2.2.1, key _ _ hN h.2.2.2.2.2.2.2.1, key _ _ hN h.2.2.2.2.2.2.2.2.1, key _ _ hN h.2.2.2.2.2.2.2.2.2.1, key _ _ hN h.2.2.2.2.2.2.2.2.2.2.1, key _ _ hM h.2.2.2.2.2.2.2.2.2.2.2.1, key _ _ hM h.2.2.2.2.2.2.2.2.2.2.2.2.1, key _ _ hM h.2.2.2.2.2.2.2.2.2.2.2.2.2.1, key _ _ hM h.2.2.2.2.2.2.2.2.2.2.2.2.2.2.1, key _ _ hM h.2.2.2.2.2.2.2.2.2.2.2.2.2.2.2.1, key _ _ hM h.2.2.2.2.2.2.2.2.2.2.2.2.2.2.2.2.1, key _ _ hM h.2.2.2.2.2.2.2.2.2.2.2.2.2.2.2.2.2.1, key _ _ hM h.2.2.2.2.2.2.2.2.2.2.2.2.2.2.2.2.2.2.1, key _ _ hM h.2.2.2.2.2.2.2.2.2.2.2.2.2.2.2.2.2.2.2.1, key _ _ hM h.2.2.2.2.2.2.2.2.2.2.2.2.2.2.2.2.2.2.2.2.1, key _ _ hM h.2.2.2.2.2.2.2.2.2.2.2.2.2.2.2.2.2.2.2.2.2.1, key _ _ hp h.2.2.2.2.2.2.2.2.2.2.2.2.2.2.2.2.2.2.2.2.2.2⟩
/-- what setting a field into a new variable leaves -/
def CutPost (e : Ev) (w0 : World) (p q : Value) (wx : World) : Prop :=
  ∃ M g, p = .pointer (some ⟨M, 0, none⟩) ∧ q = .nilIface ∧ EvAt wx M e g ∧ EvIs wx e g ∧ EvOk e g ∧ Below w0.heap.size w0 wx
def CutErr (v : Value) (w0 : World) (p q : Value) (wx : World) : Prop :=
  ∃ M, p = .pointer (some ⟨M, 0, none⟩) ∧ q = v ∧ Below w0.heap.size w0 wx
theorem EvAt.up {w w' : World} {N : Nat} {e : Ev} {g : Hd} (h : EvAt w N e g) (hb : Below w.heap.size w w') : EvAt w' N e g := (hb.block N (Array.getElem?_eq_some_iff.1 h).1).trans h
theorem evTxt_le {e : Ev} (h : EvSmall e) : (evTxt e).length ≤ 1000000 := by
  unfold evTxt
  split
  · simp
  · have := join_len_le (c := 124) (b := 1000) (l := e.id :: fieldTxts e) (fun p hp => by
      rcases List.mem_cons.1 hp with rfl | hp
      · have := h.id; omega
      · simp only [fieldTxts, List.mem_cons, List.not_mem_nil, or_false] at hp
        rcases hp with rfl | rfl | rfl | rfl | rfl | rfl <;> exact getF_le h _)
    simp [fieldTxts] at this ⊢; omega
theorem bel_alloc {w W : World} (h : Below w.heap.size w W) (o : Obj) : Below w.heap.size w (W.alloc o) := h.alloc h.size o
/-- LongEvent answers a number that says which -/
theorem longEvent_num (e : Ev) (h : Hd) : ∃ v : Int, (v = 0 ∨ v = 1) ∧ (v = 0 ↔ ¬ longEv e h) ∧ ∀ W, Calls Tryz.prog 6 #[.agg #[.string (B e.id), .string (B e.title), .int .i64 e.start, .int .i64 e.long, .string (B e.rule.freq), .int .i64 e.rule.every, .slice h.da h.dn h.dc, .int .i64 e.rule.count, .int .i64 e.rule.till, .slice h.sa h.sn h.sc, .slice h.ma h.mn h.mc]] W fun en w' => en = .returned (.int .i64 v) ∧ Below W.heap.size W w' := by
  by_cases hl : longEv e h
  · exact ⟨1, .inr rfl, by simp [hl], fun W => longEvent_yes e h W hl⟩
  · exact ⟨0, .inl rfl, by simp [hl], fun W => longEvent_not e h W hl⟩
set_option maxRecDepth 100000 in set_option maxHeartbeats 16000000 in
theorem eventBack_any (a b : Ev) (ga gb : Hd) (w : World) {S : Nat → Bool} {A : Nat → Addr} (E : Env S w A) (h1 : S 1 = true) (h2 : S 2 = true) (h3 : S 3 = true) (h4 : S 4 = true) (h6 : S 6 = true) (h7 : S 7 = true) (h8 : S 8 = true) (ra : EvIs w a ga) (rb : EvIs w b gb) (na : HdNil ga) (nb : HdNil gb) :
    Calls Tryz.prog 3 #[.agg (evC a ga), .agg (evC b gb)] w fun en w' => en = .returned (.bool true) ∧ Below w.heap.size w w' := by
  have hb : Below w.heap.size w ((w.alloc (.cells (evC a ga) 27)).alloc (.cells (evC b gb) 27)) := ((Below.refl _ _).alloc (Nat.le_refl _) _).alloc (by simp) _
  have hx : EvAt ((w.alloc (.cells (evC a ga) 27)).alloc (.cells (evC b gb) 27)) w.heap.size a ga := (Below.heap_alloc _ _ _ (by simp)).trans (heap_alloc_new w _)
  have hy : EvAt ((w.alloc (.cells (evC a ga) 27)).alloc (.cells (evC b gb) 27)) (w.heap.size + 1) b gb := by
    have := heap_alloc_new (w.alloc (.cells (evC a ga) 27)) (.cells (evC b gb) 27); simpa [EvAt] using this
  have x0 := (blk_cells hx 0).trans (show _ = some (Value.string (B a.id)) from rfl)
  have x1 := (blk_cells hx 1).trans (show _ = some (Value.string (B a.title)) from rfl)
  have x2 := (blk_cells hx 2).trans (show _ = some (Value.int .i64 a.start) from rfl)
  have x3 := (blk_cells hx 3).trans (show _ = some (Value.int .i64 a.long) from rfl)
  have x4 := (blk_cells hx 4).trans (show _ = some (Value.string (B a.rule.freq)) from rfl)
  have x5 := (blk_cells hx 5).trans (show _ = some (Value.int .i64 a.rule.every) from rfl)
  have x6 := (blk_cells hx 6).trans (show _ = some (Value.slice ga.da ga.dn ga.dc) from rfl)
  have x7 := (blk_cells hx 7).trans (show _ = some (Value.int .i64 a.rule.count) from rfl)
  have x8 := (blk_cells hx 8).trans (show _ = some (Value.int .i64 a.rule.till) from rfl)
  have x9 := (blk_cells hx 9).trans (show _ = some (Value.slice ga.sa ga.sn ga.sc) from rfl)
  have x10 := (blk_cells hx 10).trans (show _ = some (Value.slice ga.ma ga.mn ga.mc) from rfl)
  have y0 := (blk_cells hy 0).trans (show _ = some (Value.string (B b.id)) from rfl)
  have y1 := (blk_cells hy 1).trans (show _ = some (Value.string (B b.title)) from rfl)
  have y2 := (blk_cells hy 2).trans (show _ = some (Value.int .i64 b.start) from rfl)
  have y3 := (blk_cells hy 3).trans (show _ = some (Value.int .i64 b.long) from rfl)
  have y4 := (blk_cells hy 4).trans (show _ = some (Value.string (B b.rule.freq)) from rfl)
  have y5 := (blk_cells hy 5).trans (show _ = some (Value.int .i64 b.rule.every) from rfl)
  have y6 := (blk_cells hy 6).trans (show _ = some (Value.slice gb.da gb.dn gb.dc) from rfl)
  have y7 := (blk_cells hy 7).trans (show _ = some (Value.int .i64 b.rule.count) from rfl)
  have y8 := (blk_cells hy 8).trans (show _ = some (Value.int .i64 b.rule.till) from rfl)
  have y9 := (blk_cells hy 9).trans (show _ = some (Value.slice gb.sa gb.sn gb.sc) from rfl)
  have y10 := (blk_cells hy 10).trans (show _ = some (Value.slice gb.ma gb.mn gb.mc) from rfl)
  have T := Lib.hid (evented_any _ (E.up hb) h1 h2 h3 h4 h6 h7 h8)
  obtain ⟨va, hva, hla, LA⟩ := longEvent_num a ga
  obtain ⟨vb, hvb, hlb, LB⟩ := longEvent_num b gb
  rw [show evC a ga = #[.string (B a.id), .string (B a.title), .int .i64 a.start, .int .i64 a.long, .string (B a.rule.freq), .int .i64 a.rule.every, .slice ga.da ga.dn ga.dc, .int .i64 a.rule.count, .int .i64 a.rule.till, .slice ga.sa ga.sn ga.sc, .slice ga.ma ga.mn ga.mc] from rfl, show evC b gb = #[.string (B b.id), .string (B b.title), .int .i64 b.start, .int .i64 b.long, .string (B b.rule.freq), .int .i64 b.rule.every, .slice gb.da gb.dn gb.dc, .int .i64 b.rule.count, .int .i64 b.rule.till, .slice gb.sa gb.sn gb.sc, .slice gb.ma gb.mn gb.mc] from rfl] at *
  have HLA := Lib.hid LA
  have HLB := Lib.hid LB
  have HQA := Lib.hid hla
  have HQB := Lib.hid hlb
  clear hx hy LA LB hla hlb
  go_enter Tryz.func3, Tryz.ntmps3
  go_upto_region 1 with fail
  generalize World.alloc (World.alloc w _) _ = w1 at *
  go_wp2_with fail
  refine T.out.mono ?_
  rintro en w2 ⟨rfl, hb2⟩
  replace x0 := Below.cells hb2 x0
  replace x1 := Below.cells hb2 x1
  replace x2 := Below.cells hb2 x2
  replace x3 := Below.cells hb2 x3
  replace x4 := Below.cells hb2 x4
  replace x5 := Below.cells hb2 x5
  replace x6 := Below.cells hb2 x6
  replace x7 := Below.cells hb2 x7
  replace x8 := Below.cells hb2 x8
  replace x9 := Below.cells hb2 x9
  replace x10 := Below.cells hb2 x10
  replace y0 := Below.cells hb2 y0
  replace y1 := Below.cells hb2 y1
  replace y2 := Below.cells hb2 y2
  replace y3 := Below.cells hb2 y3
  replace y4 := Below.cells hb2 y4
  replace y5 := Below.cells hb2 y5
  replace y6 := Below.cells hb2 y6
  replace y7 := Below.cells hb2 y7
  replace y8 := Below.cells hb2 y8
  replace y9 := Below.cells hb2 y9
  replace y10 := Below.cells hb2 y10
  have hB2 := Below.next hb hb2
  clear hb2 hb
  go_upto_region 2 with fail
  have C0 : Cx2 w2.drew w.heap.size (w.heap.size + 1) a b ga gb ⟨w.heap.size, 0, none⟩ (.string (B a.id)) := ⟨x0, x1, x2, x3, x4, x5, x6, x7, x8, x9, x10, y0, y1, y2, y3, y4, y5, y6, y7, y8, y9, y10, x0⟩
  have HC0 := Lib.hid (And.intro x0 (And.intro x1 (And.intro x2 (And.intro x3 (And.intro x4 (And.intro x5 (And.intro x6 (And.intro x7 (And.intro x8 (And.intro x9 x10))))))))))
  have HC1 := Lib.hid (And.intro y0 (And.intro y1 (And.intro y2 (And.intro y3 (And.intro y4 (And.intro y5 (And.intro y6 (And.intro y7 (And.intro y8 (And.intro y9 y10))))))))))
  clear x0 x1 x2 x3 x4 x5 x6 x7 x8 x9 x10 y0 y1 y2 y3 y4 y5 y6 y7 y8 y9 y10
  go_cut [25] (fun s wx => s = .bool (decide (0 < va + vb)) ∧ Below w2.heap.size w2 wx)
  case first =>
    have hw2 : Below w2.heap.size w2 w2.drew := (Below.refl _ _).drew
    rcases hva with rfl | rfl <;> rcases hvb with rfl | rfl
    all_goals
      go_region_held3 (fun w' => w'.cell? ⟨w.heap.size, 0, none⟩ = some (.string (B a.id)) ∧ w'.cell? ⟨w.heap.size, 1, none⟩ = some (.string (B a.title)) ∧ w'.cell? ⟨w.heap.size, 2, none⟩ = some (.int .i64 a.start) ∧ w'.cell? ⟨w.heap.size, 3, none⟩ = some (.int .i64 a.long) ∧ w'.cell? ⟨w.heap.size, 4, none⟩ = some (.string (B a.rule.freq)) ∧ w'.cell? ⟨w.heap.size, 5, none⟩ = some (.int .i64 a.rule.every) ∧ w'.cell? ⟨w.heap.size, 6, none⟩ = some (.slice ga.da ga.dn ga.dc) ∧ w'.cell? ⟨w.heap.size, 7, none⟩ = some (.int .i64 a.rule.count) ∧ w'.cell? ⟨w.heap.size, 8, none⟩ = some (.int .i64 a.rule.till) ∧ w'.cell? ⟨w.heap.size, 9, none⟩ = some (.slice ga.sa ga.sn ga.sc) ∧ w'.cell? ⟨w.heap.size, 10, none⟩ = some (.slice ga.ma ga.mn ga.mc) ∧ w'.cell? ⟨w.heap.size + 1, 0, none⟩ = some (.string (B b.id)) ∧ w'.cell? ⟨w.heap.size + 1, 1, none⟩ = some (.string (B b.title)) ∧ w'.cell? ⟨w.heap.size + 1, 2, none⟩ = some (.int .i64 b.start) ∧ w'.cell? ⟨w.heap.size + 1, 3, none⟩ = some (.int .i64 b.long) ∧ w'.cell? ⟨w.heap.size + 1, 4, none⟩ = some (.string (B b.rule.freq)) ∧ w'.cell? ⟨w.heap.size + 1, 5, none⟩ = some (.int .i64 b.rule.every) ∧ w'.cell? ⟨w.heap.size + 1, 6, none⟩ = some (.slice gb.da gb.dn gb.dc) ∧ w'.cell? ⟨w.heap.size + 1, 7, none⟩ = some (.int .i64 b.rule.count) ∧ w'.cell? ⟨w.heap.size + 1, 8, none⟩ = some (.int .i64 b.rule.till) ∧ w'.cell? ⟨w.heap.size + 1, 9, none⟩ = some (.slice gb.sa gb.sn gb.sc) ∧ w'.cell? ⟨w.heap.size + 1, 10, none⟩ = some (.slice gb.ma gb.mn gb.mc) ∧ w'.cell? ⟨w.heap.size, 0, none⟩ = some (.string (B a.id)))
        (first | exact C0 | exact C7 | exact C6)
        (first
          | (go_at_call 6; (with_reducible refine (HLA.out _).mono ?_); rintro en w6 ⟨rfl, hb6⟩; have C6 := C0.up hb6; have hB6 := Below.next hw2 hb6)
          | (go_at_call 6; (with_reducible refine (HLB.out _).mono ?_); rintro en w7 ⟨rfl, hb7⟩; have C7 := C6.up hb7; have hB7 := Below.next hB6 hb7))
      go_wp2_with fail
      go_meet
      exact ⟨rfl, hB7⟩
  case rest =>
    obtain ⟨rfl, hb3⟩ := hcut
    have hB3 := Below.next hB2 hb3
    by_cases hq : 0 < va + vb
    · rw [show decide (0 < va + vb) = true by simpa using hq]
      clear hq hva hvb
      go_wp2
      go_ret
      exact ⟨rfl, hB3⟩
    rw [show decide (0 < va + vb) = false by simpa using hq]
    have qa : ¬ longEv a ga := HQA.out.1 (by rcases hva with h | h <;> rcases hvb with h' | h' <;> omega)
    have qb : ¬ longEv b gb := HQB.out.1 (by rcases hva with h | h <;> rcases hvb with h' | h' <;> omega)
    unfold longEv at qa qb
    have KA := fun W (hB : Below w.heap.size w W) => ownEvent_any a ga W (by omega) (by omega) (by omega) (ra.up hB) na
    have KB := fun W (hB : Below w.heap.size w W) => ownEvent_any b gb W (by omega) (by omega) (by omega) (rb.up hB) nb
    rw [show evC a ga = #[.string (B a.id), .string (B a.title), .int .i64 a.start, .int .i64 a.long, .string (B a.rule.freq), .int .i64 a.rule.every, .slice ga.da ga.dn ga.dc, .int .i64 a.rule.count, .int .i64 a.rule.till, .slice ga.sa ga.sn ga.sc, .slice ga.ma ga.mn ga.mc] from rfl] at KA
    rw [show evC b gb = #[.string (B b.id), .string (B b.title), .int .i64 b.start, .int .i64 b.long, .string (B b.rule.freq), .int .i64 b.rule.every, .slice gb.da gb.dn gb.dc, .int .i64 b.rule.count, .int .i64 b.rule.till, .slice gb.sa gb.sn gb.sc, .slice gb.ma gb.mn gb.mc] from rfl] at KB
    have HKA := Lib.hid (KA _ hB3)
    have HKB := Lib.hid KB
    have okla : ga.dn ≤ 20 ∧ ga.sn ≤ 25 ∧ ga.mn ≤ 25 ∧ a.title.length ≤ 60 := ⟨by omega, by omega, by omega, by omega⟩
    have oklb : gb.dn ≤ 20 ∧ gb.sn ≤ 25 ∧ gb.mn ≤ 25 ∧ b.title.length ≤ 60 := ⟨by omega, by omega, by omega, by omega⟩
    obtain ⟨x0, x1, x2, x3, x4, x5, x6, x7, x8, x9, x10⟩ := HC0.out
    replace x0 := Below.cells hb3 x0
    replace x1 := Below.cells hb3 x1
    replace x2 := Below.cells hb3 x2
    replace x3 := Below.cells hb3 x3
    replace x4 := Below.cells hb3 x4
    replace x5 := Below.cells hb3 x5
    replace x6 := Below.cells hb3 x6
    replace x7 := Below.cells hb3 x7
    replace x8 := Below.cells hb3 x8
    replace x9 := Below.cells hb3 x9
    replace x10 := Below.cells hb3 x10
    clear hva hvb hq qa qb KA KB C0 hB2
    go_wp2_with fail
    refine HKA.out.mono ?_
    rintro en w4 ⟨ha, rfl, hE4, e1, e2, e3, hO4, hb4⟩
    rw [show evC a ha = #[.string (B a.id), .string (B a.title), .int .i64 a.start, .int .i64 a.long, .string (B a.rule.freq), .int .i64 a.rule.every, .slice ha.da ha.dn ha.dc, .int .i64 a.rule.count, .int .i64 a.rule.till, .slice ha.sa ha.sn ha.sc, .slice ha.ma ha.mn ha.mc] from rfl]
    have hB4 := Below.next hB3 hb4
    have HE4 := Lib.hid hE4
    have OKA : Hid (EvOk a ha) := Lib.hid ⟨by omega, by omega, by omega, by omega⟩
    have HB34 := Lib.hid (Below.next hb3 hb4)
    have hx5 : Hid (EvAt (w4.alloc (.cells #[.string (B a.id), .string (B a.title), .int .i64 a.start, .int .i64 a.long, .string (B a.rule.freq), .int .i64 a.rule.every, .slice ha.da ha.dn ha.dc, .int .i64 a.rule.count, .int .i64 a.rule.till, .slice ha.sa ha.sn ha.sc, .slice ha.ma ha.mn ha.mc] 27)) w4.heap.size a ha) := Lib.hid (heap_alloc_new w4 _)
    have hb5 : Hid (Below w4.heap.size w4 (w4.alloc (.cells #[.string (B a.id), .string (B a.title), .int .i64 a.start, .int .i64 a.long, .string (B a.rule.freq), .int .i64 a.rule.every, .slice ha.da ha.dn ha.dc, .int .i64 a.rule.count, .int .i64 a.rule.till, .slice ha.sa ha.sn ha.sc, .slice ha.ma ha.mn ha.mc] 27))) := Lib.hid ((Below.refl _ _).alloc (Nat.le_refl _) _)
    clear x0 x1 x2 x3 x4 x5 x6 x7 x8 x9 x10 e1 e2 e3 hE4 hO4 hb3 hb4
    go_upto_region 5 with fail
    generalize w4.alloc (.cells #[.string (B a.id), .string (B a.title), .int .i64 a.start, .int .i64 a.long, .string (B a.rule.freq), .int .i64 a.rule.every, .slice ha.da ha.dn ha.dc, .int .i64 a.rule.count, .int .i64 a.rule.till, .slice ha.sa ha.sn ha.sc, .slice ha.ma ha.mn ha.mc] 27) = w5 at *
    have hB5 := Below.next hB4 hb5.out
    obtain ⟨y0, y1, y2, y3, y4, y5, y6, y7, y8, y9, y10⟩ := HC1.out
    have hb25 := Below.next HB34.out hb5.out
    replace y0 := Below.cells hb25 y0
    replace y1 := Below.cells hb25 y1
    replace y2 := Below.cells hb25 y2
    replace y3 := Below.cells hb25 y3
    replace y4 := Below.cells hb25 y4
    replace y5 := Below.cells hb25 y5
    replace y6 := Below.cells hb25 y6
    replace y7 := Below.cells hb25 y7
    replace y8 := Below.cells hb25 y8
    replace y9 := Below.cells hb25 y9
    replace y10 := Below.cells hb25 y10
    have HE5 := Lib.hid (HE4.out.up hb5.out)
    clear hb25
    go_wp2_with fail
    refine (HKB.out _ hB5).mono ?_
    rintro en w6 ⟨hbb, rfl, hE6, e1, e2, e3, hO6, hb6⟩
    rw [show evC b hbb = #[.string (B b.id), .string (B b.title), .int .i64 b.start, .int .i64 b.long, .string (B b.rule.freq), .int .i64 b.rule.every, .slice hbb.da hbb.dn hbb.dc, .int .i64 b.rule.count, .int .i64 b.rule.till, .slice hbb.sa hbb.sn hbb.sc, .slice hbb.ma hbb.mn hbb.mc] from rfl]
    have hB6 := Below.next hB5 hb6
    have OKB : Hid (EvOk b hbb) := Lib.hid ⟨by omega, by omega, by omega, by omega⟩
    have HX6 := Lib.hid (hx5.out.up hb6)
    have HEA6 := Lib.hid (HE5.out.up hb6)
    have HEB6 := Lib.hid hE6
    have hy7 : Hid (EvAt (w6.alloc (.cells #[.string (B b.id), .string (B b.title), .int .i64 b.start, .int .i64 b.long, .string (B b.rule.freq), .int .i64 b.rule.every, .slice hbb.da hbb.dn hbb.dc, .int .i64 b.rule.count, .int .i64 b.rule.till, .slice hbb.sa hbb.sn hbb.sc, .slice hbb.ma hbb.mn hbb.mc] 27)) w6.heap.size b hbb) := Lib.hid (heap_alloc_new w6 _)
    have hb7 : Hid (Below w6.heap.size w6 (w6.alloc (.cells #[.string (B b.id), .string (B b.title), .int .i64 b.start, .int .i64 b.long, .string (B b.rule.freq), .int .i64 b.rule.every, .slice hbb.da hbb.dn hbb.dc, .int .i64 b.rule.count, .int .i64 b.rule.till, .slice hbb.sa hbb.sn hbb.sc, .slice hbb.ma hbb.mn hbb.mc] 27))) := Lib.hid ((Below.refl _ _).alloc (Nat.le_refl _) _)
    clear y0 y1 y2 y3 y4 y5 y6 y7 y8 y9 y10 e1 e2 e3 hE6 hO6 hb6 hB4 hB5 hB3
    go_upto_region 6 with fail
    generalize w6.alloc (.cells #[.string (B b.id), .string (B b.title), .int .i64 b.start, .int .i64 b.long, .string (B b.rule.freq), .int .i64 b.rule.every, .slice hbb.da hbb.dn hbb.dc, .int .i64 b.rule.count, .int .i64 b.rule.till, .slice hbb.sa hbb.sn hbb.sc, .slice hbb.ma hbb.mn hbb.mc] 27) = w7 at *
    have HB7 := Lib.hid (Below.next hB6 hb7.out)
    have HX7 := Lib.hid (HX6.out.up hb7.out)
    have HEA := Lib.hid (HEA6.out.up hb7.out)
    have HEB := Lib.hid (HEB6.out.up hb7.out)
    have EN := E.up HB7.out
    generalize w4.heap.size = NX at *
    generalize w6.heap.size = NY at *
    clear HX6 HEA6 HEB6 hb7 hb5 hx5 HE4 HE5 HB34 HC0 HC1 HKA HKB HLA HLB HQA HQB T hB6 E ra rb
    have K1 := evCheck_any a ha w7 OKA.out HEA.out EN h1 h2 h3 h4 h6 h7 h8
    rw [show evC a ha = #[.string (B a.id), .string (B a.title), .int .i64 a.start, .int .i64 a.long, .string (B a.rule.freq), .int .i64 a.rule.every, .slice ha.da ha.dn ha.dc, .int .i64 a.rule.count, .int .i64 a.rule.till, .slice ha.sa ha.sn ha.sc, .slice ha.ma ha.mn ha.mc] from rfl] at K1
    have HK1 := Lib.hid K1
    have hx7 := HX7.out
    have x0 := (blk_cells hx7 0).trans (show _ = some (Value.string (B a.id)) from rfl)
    have x1 := (blk_cells hx7 1).trans (show _ = some (Value.string (B a.title)) from rfl)
    have x2 := (blk_cells hx7 2).trans (show _ = some (Value.int .i64 a.start) from rfl)
    have x3 := (blk_cells hx7 3).trans (show _ = some (Value.int .i64 a.long) from rfl)
    have x4 := (blk_cells hx7 4).trans (show _ = some (Value.string (B a.rule.freq)) from rfl)
    have x5 := (blk_cells hx7 5).trans (show _ = some (Value.int .i64 a.rule.every) from rfl)
    have x6 := (blk_cells hx7 6).trans (show _ = some (Value.slice ha.da ha.dn ha.dc) from rfl)
    have x7 := (blk_cells hx7 7).trans (show _ = some (Value.int .i64 a.rule.count) from rfl)
    have x8 := (blk_cells hx7 8).trans (show _ = some (Value.int .i64 a.rule.till) from rfl)
    have x9 := (blk_cells hx7 9).trans (show _ = some (Value.slice ha.sa ha.sn ha.sc) from rfl)
    have x10 := (blk_cells hx7 10).trans (show _ = some (Value.slice ha.ma ha.mn ha.mc) from rfl)
    clear K1 hx7
    go_wp2_with fail
    refine HK1.out.mono ?_
    rintro en w8 ⟨rfl, hb8⟩
    by_cases ea : evErr a = 0
    case neg =>
      rw [errV_pos ea]
      clear ea x0 x1 x2 x3 x4 x5 x6 x7 x8 x9 x10
      go_wp2
      go_ret
      exact ⟨rfl, Below.next HB7.out hb8⟩
    rw [ea, errV_zero]
    have K2 := evCheck_any b hbb w8 OKB.out (HEB.out.up hb8) (EN.up hb8) h1 h2 h3 h4 h6 h7 h8
    rw [show evC b hbb = #[.string (B b.id), .string (B b.title), .int .i64 b.start, .int .i64 b.long, .string (B b.rule.freq), .int .i64 b.rule.every, .slice hbb.da hbb.dn hbb.dc, .int .i64 b.rule.count, .int .i64 b.rule.till, .slice hbb.sa hbb.sn hbb.sc, .slice hbb.ma hbb.mn hbb.mc] from rfl] at K2
    have HK2 := Lib.hid K2
    have hy8 := hy7.out.up hb8
    have EA := Lib.hid ea
    have y0 := (blk_cells hy8 0).trans (show _ = some (Value.string (B b.id)) from rfl)
    have y1 := (blk_cells hy8 1).trans (show _ = some (Value.string (B b.title)) from rfl)
    have y2 := (blk_cells hy8 2).trans (show _ = some (Value.int .i64 b.start) from rfl)
    have y3 := (blk_cells hy8 3).trans (show _ = some (Value.int .i64 b.long) from rfl)
    have y4 := (blk_cells hy8 4).trans (show _ = some (Value.string (B b.rule.freq)) from rfl)
    have y5 := (blk_cells hy8 5).trans (show _ = some (Value.int .i64 b.rule.every) from rfl)
    have y6 := (blk_cells hy8 6).trans (show _ = some (Value.slice hbb.da hbb.dn hbb.dc) from rfl)
    have y7 := (blk_cells hy8 7).trans (show _ = some (Value.int .i64 b.rule.count) from rfl)
    have y8 := (blk_cells hy8 8).trans (show _ = some (Value.int .i64 b.rule.till) from rfl)
    have y9 := (blk_cells hy8 9).trans (show _ = some (Value.slice hbb.sa hbb.sn hbb.sc) from rfl)
    have y10 := (blk_cells hy8 10).trans (show _ = some (Value.slice hbb.ma hbb.mn hbb.mc) from rfl)
    clear K2 hy8 ea x0 x1 x2 x3 x4 x5 x6 x7 x8 x9 x10 HK1
    go_wp2_with fail
    refine HK2.out.mono ?_
    rintro en w9 ⟨rfl, hb9⟩
    have hb79 := Below.next hb8 hb9
    by_cases eb : evErr b = 0
    case neg =>
      rw [errV_pos eb]
      clear eb y0 y1 y2 y3 y4 y5 y6 y7 y8 y9 y10
      go_wp2
      go_ret
      exact ⟨rfl, Below.next HB7.out hb79⟩
    rw [eb, errV_zero]
    have EB := Lib.hid eb
    have SMA := ev_small EA.out
    have SMB := ev_small eb
    have K3 := evText_any a ha w9 OKA.out (HEA.out.up hb79) (EN.up hb79) h1 h2 h3 h4 h6 h7 h8
    rw [show evC a ha = #[.string (B a.id), .string (B a.title), .int .i64 a.start, .int .i64 a.long, .string (B a.rule.freq), .int .i64 a.rule.every, .slice ha.da ha.dn ha.dc, .int .i64 a.rule.count, .int .i64 a.rule.till, .slice ha.sa ha.sn ha.sc, .slice ha.ma ha.mn ha.mc] from rfl] at K3
    have HK3 := Lib.hid K3
    have hx9 := HX7.out.up hb79
    have x0 := (blk_cells hx9 0).trans (show _ = some (Value.string (B a.id)) from rfl)
    have x1 := (blk_cells hx9 1).trans (show _ = some (Value.string (B a.title)) from rfl)
    have x2 := (blk_cells hx9 2).trans (show _ = some (Value.int .i64 a.start) from rfl)
    have x3 := (blk_cells hx9 3).trans (show _ = some (Value.int .i64 a.long) from rfl)
    have x4 := (blk_cells hx9 4).trans (show _ = some (Value.string (B a.rule.freq)) from rfl)
    have x5 := (blk_cells hx9 5).trans (show _ = some (Value.int .i64 a.rule.every) from rfl)
    have x6 := (blk_cells hx9 6).trans (show _ = some (Value.slice ha.da ha.dn ha.dc) from rfl)
    have x7 := (blk_cells hx9 7).trans (show _ = some (Value.int .i64 a.rule.count) from rfl)
    have x8 := (blk_cells hx9 8).trans (show _ = some (Value.int .i64 a.rule.till) from rfl)
    have x9 := (blk_cells hx9 9).trans (show _ = some (Value.slice ha.sa ha.sn ha.sc) from rfl)
    have x10 := (blk_cells hx9 10).trans (show _ = some (Value.slice ha.ma ha.mn ha.mc) from rfl)
    clear K3 hx9 eb y0 y1 y2 y3 y4 y5 y6 y7 y8 y9 y10 HK2 hb8 hb9
    go_wp2_with fail
    refine HK3.out.mono ?_
    rintro en w10 ⟨rfl, hb10⟩
    have hb710 := Below.next hb79 hb10
    have K4 := evRead_any (B (evTxt a)) (by have := evTxt_le SMA; show (evTxt a).toArray.size ≤ _; simpa using this) w10 (EN.up hb710) h1 h2 h3 h4 h6 h7 h8
    rw [show (B (evTxt a)).data.toList = evTxt a by simp, evRead_txt EA.out] at K4
    have HK4 := Lib.hid K4
    clear K4 x0 x1 x2 x3 x4 x5 x6 x7 x8 x9 x10 HK3 hb79 hb10
    go_wp2_with fail
    refine HK4.out.mono ?_
    rintro en w11 ⟨hb11, hz, rfl, hE11, ok11, _⟩
    rw [show evC a hz = #[.string (B a.id), .string (B a.title), .int .i64 a.start, .int .i64 a.long, .string (B a.rule.freq), .int .i64 a.rule.every, .slice hz.da hz.dn hz.dc, .int .i64 a.rule.count, .int .i64 a.rule.till, .slice hz.sa hz.sn hz.sc, .slice hz.ma hz.mn hz.mc] from rfl]
    have hz12 : Hid (EvAt (w11.alloc (.cells #[.string (B a.id), .string (B a.title), .int .i64 a.start, .int .i64 a.long, .string (B a.rule.freq), .int .i64 a.rule.every, .slice hz.da hz.dn hz.dc, .int .i64 a.rule.count, .int .i64 a.rule.till, .slice hz.sa hz.sn hz.sc, .slice hz.ma hz.mn hz.mc] 27)) w11.heap.size a hz) := Lib.hid (heap_alloc_new w11 _)
    have hb12 : Below w11.heap.size w11 (w11.alloc (.cells #[.string (B a.id), .string (B a.title), .int .i64 a.start, .int .i64 a.long, .string (B a.rule.freq), .int .i64 a.rule.every, .slice hz.da hz.dn hz.dc, .int .i64 a.rule.count, .int .i64 a.rule.till, .slice hz.sa hz.sn hz.sc, .slice hz.ma hz.mn hz.mc] 27)) := (Below.refl _ _).alloc (Nat.le_refl _) _
    have HB12 := Lib.hid hb12
    have HB711 := Lib.hid (Below.next hb710 hb11)
    have HE11 := Lib.hid hE11
    clear hb12 hb710 hb11 hE11 HK4
    go_upto_region 9 with fail
    generalize w11.alloc (.cells #[.string (B a.id), .string (B a.title), .int .i64 a.start, .int .i64 a.long, .string (B a.rule.freq), .int .i64 a.rule.every, .slice hz.da hz.dn hz.dc, .int .i64 a.rule.count, .int .i64 a.rule.till, .slice hz.sa hz.sn hz.sc, .slice hz.ma hz.mn hz.mc] 27) = w12 at *
    have hb712 := Below.next HB711.out HB12.out
    have K5 := sameEvent_any a hz ha w12 (HE11.out.up HB12.out) (HEA.out.up hb712) ok11.dn ok11.sn ok11.mn
    rw [show evC a ha = #[.string (B a.id), .string (B a.title), .int .i64 a.start, .int .i64 a.long, .string (B a.rule.freq), .int .i64 a.rule.every, .slice ha.da ha.dn ha.dc, .int .i64 a.rule.count, .int .i64 a.rule.till, .slice ha.sa ha.sn ha.sc, .slice ha.ma ha.mn ha.mc] from rfl, show evC a hz = #[.string (B a.id), .string (B a.title), .int .i64 a.start, .int .i64 a.long, .string (B a.rule.freq), .int .i64 a.rule.every, .slice hz.da hz.dn hz.dc, .int .i64 a.rule.count, .int .i64 a.rule.till, .slice hz.sa hz.sn hz.sc, .slice hz.ma hz.mn hz.mc] from rfl] at K5
    have HK5 := Lib.hid K5
    have hx12 := HX7.out.up hb712
    have hz12b := hz12.out
    have x0 := (blk_cells hx12 0).trans (show _ = some (Value.string (B a.id)) from rfl)
    have x1 := (blk_cells hx12 1).trans (show _ = some (Value.string (B a.title)) from rfl)
    have x2 := (blk_cells hx12 2).trans (show _ = some (Value.int .i64 a.start) from rfl)
    have x3 := (blk_cells hx12 3).trans (show _ = some (Value.int .i64 a.long) from rfl)
    have x4 := (blk_cells hx12 4).trans (show _ = some (Value.string (B a.rule.freq)) from rfl)
    have x5 := (blk_cells hx12 5).trans (show _ = some (Value.int .i64 a.rule.every) from rfl)
    have x6 := (blk_cells hx12 6).trans (show _ = some (Value.slice ha.da ha.dn ha.dc) from rfl)
    have x7 := (blk_cells hx12 7).trans (show _ = some (Value.int .i64 a.rule.count) from rfl)
    have x8 := (blk_cells hx12 8).trans (show _ = some (Value.int .i64 a.rule.till) from rfl)
    have x9 := (blk_cells hx12 9).trans (show _ = some (Value.slice ha.sa ha.sn ha.sc) from rfl)
    have x10 := (blk_cells hx12 10).trans (show _ = some (Value.slice ha.ma ha.mn ha.mc) from rfl)
    have z0 := (blk_cells hz12b 0).trans (show _ = some (Value.string (B a.id)) from rfl)
    have z1 := (blk_cells hz12b 1).trans (show _ = some (Value.string (B a.title)) from rfl)
    have z2 := (blk_cells hz12b 2).trans (show _ = some (Value.int .i64 a.start) from rfl)
    have z3 := (blk_cells hz12b 3).trans (show _ = some (Value.int .i64 a.long) from rfl)
    have z4 := (blk_cells hz12b 4).trans (show _ = some (Value.string (B a.rule.freq)) from rfl)
    have z5 := (blk_cells hz12b 5).trans (show _ = some (Value.int .i64 a.rule.every) from rfl)
    have z6 := (blk_cells hz12b 6).trans (show _ = some (Value.slice hz.da hz.dn hz.dc) from rfl)
    have z7 := (blk_cells hz12b 7).trans (show _ = some (Value.int .i64 a.rule.count) from rfl)
    have z8 := (blk_cells hz12b 8).trans (show _ = some (Value.int .i64 a.rule.till) from rfl)
    have z9 := (blk_cells hz12b 9).trans (show _ = some (Value.slice hz.sa hz.sn hz.sc) from rfl)
    have z10 := (blk_cells hz12b 10).trans (show _ = some (Value.slice hz.ma hz.mn hz.mc) from rfl)
    clear K5 hx12 hz12 hz12b HB12 HB711 HE11
    go_wp2_with fail
    refine HK5.out.mono ?_
    rintro en w13 ⟨rfl, hb13⟩
    have hb713 := Below.next hb712 hb13
    clear x0 x1 x2 x3 x4 x5 x6 x7 x8 x9 x10 z0 z1 z2 z3 z4 z5 z6 z7 z8 z9 z10 hb712 hb13 HK5
    go_wp2_with fail
    refine (fields_any w13).mono ?_
    rintro en w14 ⟨rfl, rfl⟩
    have hb14 : Below w13.heap.size w13 (w13.alloc (.cells fieldRow 9)) := (Below.refl _ _).alloc (Nat.le_refl _) _
    have row : ∀ i, i < 6 → (w13.alloc (.cells fieldRow 9)).cell? ⟨w13.heap.size, i, none⟩ = some (.string (B (fieldName i))) := fun i hi => (new_cell _ _ _ i).trans (fieldRow_at i hi)
    have ROW := Lib.hid row
    have HB714 := Lib.hid (Below.next hb713 hb14)
    clear row hb14 hb713
    generalize w13.alloc (.cells fieldRow 9) = w14 at *
    generalize w13.heap.size = fb at *
    go_wp2_with fail
    go_loopw [11] (fun i wr => ∃ k : Nat, k ≤ 6 ∧ i = .int .i64 k ∧ Below w14.heap.size w14 wr) (fun i _ => 6 - (intOf i).toNat)
    case atStart => exact ⟨0, Nat.zero_le _, rfl, Below.refl _ _⟩
    case round =>
      obtain ⟨k, hk, rfl, hbr⟩ := hrel
      have hb7r := Below.next HB714.out hbr
      by_cases hlt : k < 6
      case neg =>
        obtain rfl : k = 6 := by omega
        clear SMA SMB
        go_wp2
        go_ret
        exact ⟨rfl, Below.next HB7.out hb7r⟩
      have fr := Below.cells hbr (ROW.out k hlt)
      have hxr := HX7.out.up hb7r
      have hyr := hy7.out.up hb7r
      have x0 := (blk_cells hxr 0).trans (show _ = some (Value.string (B a.id)) from rfl)
      have x1 := (blk_cells hxr 1).trans (show _ = some (Value.string (B a.title)) from rfl)
      have x2 := (blk_cells hxr 2).trans (show _ = some (Value.int .i64 a.start) from rfl)
      have x3 := (blk_cells hxr 3).trans (show _ = some (Value.int .i64 a.long) from rfl)
      have x4 := (blk_cells hxr 4).trans (show _ = some (Value.string (B a.rule.freq)) from rfl)
      have x5 := (blk_cells hxr 5).trans (show _ = some (Value.int .i64 a.rule.every) from rfl)
      have x6 := (blk_cells hxr 6).trans (show _ = some (Value.slice ha.da ha.dn ha.dc) from rfl)
      have x7 := (blk_cells hxr 7).trans (show _ = some (Value.int .i64 a.rule.count) from rfl)
      have x8 := (blk_cells hxr 8).trans (show _ = some (Value.int .i64 a.rule.till) from rfl)
      have x9 := (blk_cells hxr 9).trans (show _ = some (Value.slice ha.sa ha.sn ha.sc) from rfl)
      have x10 := (blk_cells hxr 10).trans (show _ = some (Value.slice ha.ma ha.mn ha.mc) from rfl)
      have y0 := (blk_cells hyr 0).trans (show _ = some (Value.string (B b.id)) from rfl)
      have y1 := (blk_cells hyr 1).trans (show _ = some (Value.string (B b.title)) from rfl)
      have y2 := (blk_cells hyr 2).trans (show _ = some (Value.int .i64 b.start) from rfl)
      have y3 := (blk_cells hyr 3).trans (show _ = some (Value.int .i64 b.long) from rfl)
      have y4 := (blk_cells hyr 4).trans (show _ = some (Value.string (B b.rule.freq)) from rfl)
      have y5 := (blk_cells hyr 5).trans (show _ = some (Value.int .i64 b.rule.every) from rfl)
      have y6 := (blk_cells hyr 6).trans (show _ = some (Value.slice hbb.da hbb.dn hbb.dc) from rfl)
      have y7 := (blk_cells hyr 7).trans (show _ = some (Value.int .i64 b.rule.count) from rfl)
      have y8 := (blk_cells hyr 8).trans (show _ = some (Value.int .i64 b.rule.till) from rfl)
      have y9 := (blk_cells hyr 9).trans (show _ = some (Value.slice hbb.sa hbb.sn hbb.sc) from rfl)
      have y10 := (blk_cells hyr 10).trans (show _ = some (Value.slice hbb.ma hbb.mn hbb.mc) from rfl)
      have C0 : Cx2 wr NX NY a b ha hbb ⟨fb, k, none⟩ (.string (B (fieldName k))) := ⟨x0, x1, x2, x3, x4, x5, x6, x7, x8, x9, x10, y0, y1, y2, y3, y4, y5, y6, y7, y8, y9, y10, fr⟩
      have hNX : NX < wr.heap.size := cell_lt x0
      have hNY : NY < wr.heap.size := cell_lt y0
      have hFB : fb < wr.heap.size := cell_lt fr
      have GX := fun W (hB : Below wr.heap.size wr W) => get_any k hlt a ha W OKA.out (by have := SMA.long0; omega) (by have := SMA.long1; omega) (HEA.out.up (Below.next hb7r hB)) (EN.up (Below.next hb7r hB)) h2 h3 h4 h8
      have GY := fun W (hB : Below wr.heap.size wr W) => get_any k hlt b hbb W OKB.out (by have := SMB.long0; omega) (by have := SMB.long1; omega) (HEB.out.up (Below.next hb7r hB)) (EN.up (Below.next hb7r hB)) h2 h3 h4 h8
      have SX := fun W (hB : Below wr.heap.size wr W) => set_any k hlt a ha (getF a k) (by have := getF_le SMA k; omega) W (EN.up (Below.next hb7r hB)) h1 h2 h3 h4 h6 h7 h8 OKA.out (HEA.out.up (Below.next hb7r hB))
      have SY := fun W (hB : Below wr.heap.size wr W) => set_any k hlt a ha (getF b k) (by have := getF_le SMB k; omega) W (EN.up (Below.next hb7r hB)) h1 h2 h3 h4 h6 h7 h8 OKA.out (HEA.out.up (Below.next hb7r hB))
      rw [setF_self EA.out hlt] at SX
      have SO : Hid (∀ o, setF a k (getF b k) = .ok o → getF o k = getF b k) := Lib.hid (fun o ho => setF_other EB.out hlt ho)
      have SV : Hid (∀ o, setF a k (getF b k) = .ok o → evErr o = 0) := Lib.hid (fun o ho => by
        unfold setF at ho
        split at ho
        · unfold checked at ho
          split at ho
          · rename_i h0; injection ho with ho; subst ho; exact h0
          · cases ho
        · cases ho)
      have GO := fun (o : Ev) (g : Hd) W (hB : Below wr.heap.size wr W) (ho : setF a k (getF b k) = .ok o) (hE : EvIs W o g) (hok : EvOk o g) => get_any k hlt o g W hok (by have := (ev_small (SV.out o ho)).long0; omega) (by have := (ev_small (SV.out o ho)).long1; omega) hE (EN.up (Below.next hb7r hB)) h2 h3 h4 h8
      rw [show evC a ha = #[.string (B a.id), .string (B a.title), .int .i64 a.start, .int .i64 a.long, .string (B a.rule.freq), .int .i64 a.rule.every, .slice ha.da ha.dn ha.dc, .int .i64 a.rule.count, .int .i64 a.rule.till, .slice ha.sa ha.sn ha.sc, .slice ha.ma ha.mn ha.mc] from rfl] at GX SX SY
      rw [show evC b hbb = #[.string (B b.id), .string (B b.title), .int .i64 b.start, .int .i64 b.long, .string (B b.rule.freq), .int .i64 b.rule.every, .slice hbb.da hbb.dn hbb.dc, .int .i64 b.rule.count, .int .i64 b.rule.till, .slice hbb.sa hbb.sn hbb.sc, .slice hbb.ma hbb.mn hbb.mc] from rfl] at GY
      have HGX := Lib.hid GX
      have HGY := Lib.hid GY
      have HSX := Lib.hid SX
      have HSY := Lib.hid SY
      have HGO := Lib.hid GO
      have FR := Lib.hid fr
      clear GX GY SX SY GO hxr hyr x0 x1 x2 x3 x4 x5 x6 x7 x8 x9 x10 y0 y1 y2 y3 y4 y5 y6 y7 y8 y9 y10 fr
      have i1 : (k : Int) < 6 := by omega
      generalize B (fieldName k) = fn at *
      go_upto_region 15 with fail
      go_cut [12, 13] (fun p q wx => CutPost a wr p q wx)
      case first =>
        have hw0 : Below wr.heap.size wr wr.drew := (Below.refl _ _).drew
        have C0d : Cx2 wr.drew NX NY a b ha hbb ⟨fb, k, none⟩ (.string fn) := C0
        have hw1 : Below wr.heap.size wr (wr.alloc (.cells zEvC 27)).drew := ((Below.refl _ _).alloc (Nat.le_refl _) _).drew
        have C1d : Cx2 (wr.alloc (.cells zEvC 27)).drew NX NY a b ha hbb ⟨fb, k, none⟩ (.string fn) := Cx2.up hw1 C0
        go_region_held3 (fun w' => w'.cell? ⟨NX, 0, none⟩ = some (.string (B a.id)) ∧ w'.cell? ⟨NX, 1, none⟩ = some (.string (B a.title)) ∧ w'.cell? ⟨NX, 2, none⟩ = some (.int .i64 a.start) ∧ w'.cell? ⟨NX, 3, none⟩ = some (.int .i64 a.long) ∧ w'.cell? ⟨NX, 4, none⟩ = some (.string (B a.rule.freq)) ∧ w'.cell? ⟨NX, 5, none⟩ = some (.int .i64 a.rule.every) ∧ w'.cell? ⟨NX, 6, none⟩ = some (.slice ha.da ha.dn ha.dc) ∧ w'.cell? ⟨NX, 7, none⟩ = some (.int .i64 a.rule.count) ∧ w'.cell? ⟨NX, 8, none⟩ = some (.int .i64 a.rule.till) ∧ w'.cell? ⟨NX, 9, none⟩ = some (.slice ha.sa ha.sn ha.sc) ∧ w'.cell? ⟨NX, 10, none⟩ = some (.slice ha.ma ha.mn ha.mc) ∧ w'.cell? ⟨NY, 0, none⟩ = some (.string (B b.id)) ∧ w'.cell? ⟨NY, 1, none⟩ = some (.string (B b.title)) ∧ w'.cell? ⟨NY, 2, none⟩ = some (.int .i64 b.start) ∧ w'.cell? ⟨NY, 3, none⟩ = some (.int .i64 b.long) ∧ w'.cell? ⟨NY, 4, none⟩ = some (.string (B b.rule.freq)) ∧ w'.cell? ⟨NY, 5, none⟩ = some (.int .i64 b.rule.every) ∧ w'.cell? ⟨NY, 6, none⟩ = some (.slice hbb.da hbb.dn hbb.dc) ∧ w'.cell? ⟨NY, 7, none⟩ = some (.int .i64 b.rule.count) ∧ w'.cell? ⟨NY, 8, none⟩ = some (.int .i64 b.rule.till) ∧ w'.cell? ⟨NY, 9, none⟩ = some (.slice hbb.sa hbb.sn hbb.sc) ∧ w'.cell? ⟨NY, 10, none⟩ = some (.slice hbb.ma hbb.mn hbb.mc) ∧ w'.cell? ⟨fb, k, none⟩ = some (.string fn))
          (with_reducible (first | exact C0d | exact C1d | exact C6 | exact C8 | exact C7 | exact Cx2.up ((Below.refl _ _).alloc (Nat.le_refl _) _) C0d | exact Cx2.up ((Below.refl _ _).alloc (Nat.le_refl _) _) C6 | exact Cx2.up ((Below.refl _ _).alloc (Nat.le_refl _) _) C7))
          (first
            | (go_at_call 14; (with_reducible refine (HGX.out _ (by with_reducible (first | assumption | exact bel_alloc (by assumption) _))).mono ?_); rintro en w6 ⟨rfl, hb6⟩; have B6 : Below wr.heap.size wr w6 := Below.next (by with_reducible (first | assumption | exact bel_alloc (by assumption) _)) hb6; have C6 : Cx2 w6 NX NY a b ha hbb ⟨fb, k, none⟩ (.string fn) := Cx2.up B6 C0; have Z6 := B6.size; try have m6 : w6.heap[wr.heap.size]? = some (.cells zEvC 27 (0, 0)) := (hb6.block wr.heap.size (by show wr.heap.size < (wr.alloc _).heap.size; simp)).trans (heap_alloc_new wr _))
            | (go_at_call 13; (with_reducible refine (HSX.out _ (by with_reducible (first | assumption | exact bel_alloc (by assumption) _))).mono ?_); rintro en w7 ⟨hb7, gs, rfl, hE7, ok7, hO7⟩; rw [show evC a gs = #[.string (B a.id), .string (B a.title), .int .i64 a.start, .int .i64 a.long, .string (B a.rule.freq), .int .i64 a.rule.every, .slice gs.da gs.dn gs.dc, .int .i64 a.rule.count, .int .i64 a.rule.till, .slice gs.sa gs.sn gs.sc, .slice gs.ma gs.mn gs.mc] from rfl]; have B7 : Below wr.heap.size wr w7 := Below.next (by with_reducible (first | assumption | exact bel_alloc (by assumption) _)) hb7; have C7 : Cx2 w7 NX NY a b ha hbb ⟨fb, k, none⟩ (.string fn) := Cx2.up B7 C0; have Z7 := B7.size; have L7 : Hid (CutPost a wr (.pointer (some ⟨w7.heap.size, 0, none⟩)) .nilIface (w7.alloc (.cells #[.string (B a.id), .string (B a.title), .int .i64 a.start, .int .i64 a.long, .string (B a.rule.freq), .int .i64 a.rule.every, .slice gs.da gs.dn gs.dc, .int .i64 a.rule.count, .int .i64 a.rule.till, .slice gs.sa gs.sn gs.sc, .slice gs.ma gs.mn gs.mc] 27))) := Lib.hid ⟨w7.heap.size, gs, rfl, rfl, heap_alloc_new w7 _, hE7.up ((Below.refl _ _).alloc (Nat.le_refl _) _), ok7, bel_alloc B7 _⟩; (try (have m7 : w7.heap[wr.heap.size]? = some (.cells zEvC 27 (0, 0)) := (hb7.block wr.heap.size (Array.getElem?_eq_some_iff.1 m6).1).trans m6; have C8 : Cx2 (((((((((((w7.setCell ⟨wr.heap.size, 0, none⟩ (.string (B a.id))).setCell ⟨wr.heap.size, 1, none⟩ (.string (B a.title))).setCell ⟨wr.heap.size, 2, none⟩ (.int .i64 a.start)).setCell ⟨wr.heap.size, 3, none⟩ (.int .i64 a.long)).setCell ⟨wr.heap.size, 4, none⟩ (.string (B a.rule.freq))).setCell ⟨wr.heap.size, 5, none⟩ (.int .i64 a.rule.every)).setCell ⟨wr.heap.size, 6, none⟩ (.slice gs.da gs.dn gs.dc)).setCell ⟨wr.heap.size, 7, none⟩ (.int .i64 a.rule.count)).setCell ⟨wr.heap.size, 8, none⟩ (.int .i64 a.rule.till)).setCell ⟨wr.heap.size, 9, none⟩ (.slice gs.sa gs.sn gs.sc)).setCell ⟨wr.heap.size, 10, none⟩ (.slice gs.ma gs.mn gs.mc)) NX NY a b ha hbb ⟨fb, k, none⟩ (.string fn) := Cx2.besides (ev_besides (N := wr.heap.size) (Besides.of_below (Below.refl w7.heap.size w7)) _ _ _ _ _ _ _ _ _ _ _) (by omega) (by omega) (by show fb ≠ wr.heap.size; omega) C7; have L7 : Hid (CutPost a wr (.pointer (some ⟨wr.heap.size, 0, none⟩)) .nilIface (((((((((((w7.setCell ⟨wr.heap.size, 0, none⟩ (.string (B a.id))).setCell ⟨wr.heap.size, 1, none⟩ (.string (B a.title))).setCell ⟨wr.heap.size, 2, none⟩ (.int .i64 a.start)).setCell ⟨wr.heap.size, 3, none⟩ (.int .i64 a.long)).setCell ⟨wr.heap.size, 4, none⟩ (.string (B a.rule.freq))).setCell ⟨wr.heap.size, 5, none⟩ (.int .i64 a.rule.every)).setCell ⟨wr.heap.size, 6, none⟩ (.slice gs.da gs.dn gs.dc)).setCell ⟨wr.heap.size, 7, none⟩ (.int .i64 a.rule.count)).setCell ⟨wr.heap.size, 8, none⟩ (.int .i64 a.rule.till)).setCell ⟨wr.heap.size, 9, none⟩ (.slice gs.sa gs.sn gs.sc)).setCell ⟨wr.heap.size, 10, none⟩ (.slice gs.ma gs.mn gs.mc))) := Lib.hid ⟨wr.heap.size, gs, rfl, rfl, ev_sets m7 _ _ _ _ _ _ _ _ _ _ _, hE7.besides (ev_besides (Besides.of_below (Below.refl _ _)) _ _ _ _ _ _ _ _ _ _ _) (hO7 _ (Array.getElem?_eq_some_iff.1 m6).1), ok7, ev_below B7 (Nat.le_refl _) _ _ _ _ _ _ _ _ _ _ _⟩; have v0 := (blk_cells m7 0).trans (show _ = some (Value.string ⟨#[]⟩) from rfl); have v1 := (blk_cells m7 1).trans (show _ = some (Value.string ⟨#[]⟩) from rfl); have v2 := (blk_cells m7 2).trans (show _ = some (Value.int .i64 0) from rfl); have v3 := (blk_cells m7 3).trans (show _ = some (Value.int .i64 0) from rfl); have v4 := (blk_cells m7 4).trans (show _ = some (Value.string ⟨#[]⟩) from rfl); have v5 := (blk_cells m7 5).trans (show _ = some (Value.int .i64 0) from rfl); have v6 := (blk_cells m7 6).trans (show _ = some (Value.slice none 0 0) from rfl); have v7 := (blk_cells m7 7).trans (show _ = some (Value.int .i64 0) from rfl); have v8 := (blk_cells m7 8).trans (show _ = some (Value.int .i64 0) from rfl); have v9 := (blk_cells m7 9).trans (show _ = some (Value.slice none 0 0) from rfl); have v10 := (blk_cells m7 10).trans (show _ = some (Value.slice none 0 0) from rfl); have u0 := blk_frozens m7 0; have u1 := blk_frozens m7 1; have u2 := blk_frozens m7 2; have u3 := blk_frozens m7 3; have u4 := blk_frozens m7 4; have u5 := blk_frozens m7 5; have u6 := blk_frozens m7 6; have u7 := blk_frozens m7 7; have u8 := blk_frozens m7 8; have u9 := blk_frozens m7 9; have u10 := blk_frozens m7 10)); (try (have m7 : w7.heap[w6.heap.size]? = some (.cells zEvC 27 (0, 0)) := (hb7.block w6.heap.size (by simp)).trans (heap_alloc_new w6 _); have C8 : Cx2 (((((((((((w7.setCell ⟨w6.heap.size, 0, none⟩ (.string (B a.id))).setCell ⟨w6.heap.size, 1, none⟩ (.string (B a.title))).setCell ⟨w6.heap.size, 2, none⟩ (.int .i64 a.start)).setCell ⟨w6.heap.size, 3, none⟩ (.int .i64 a.long)).setCell ⟨w6.heap.size, 4, none⟩ (.string (B a.rule.freq))).setCell ⟨w6.heap.size, 5, none⟩ (.int .i64 a.rule.every)).setCell ⟨w6.heap.size, 6, none⟩ (.slice gs.da gs.dn gs.dc)).setCell ⟨w6.heap.size, 7, none⟩ (.int .i64 a.rule.count)).setCell ⟨w6.heap.size, 8, none⟩ (.int .i64 a.rule.till)).setCell ⟨w6.heap.size, 9, none⟩ (.slice gs.sa gs.sn gs.sc)).setCell ⟨w6.heap.size, 10, none⟩ (.slice gs.ma gs.mn gs.mc)) NX NY a b ha hbb ⟨fb, k, none⟩ (.string fn) := Cx2.besides (ev_besides (N := w6.heap.size) (Besides.of_below (Below.refl w7.heap.size w7)) _ _ _ _ _ _ _ _ _ _ _) (by omega) (by omega) (by show fb ≠ w6.heap.size; omega) C7; have L7 : Hid (CutPost a wr (.pointer (some ⟨w6.heap.size, 0, none⟩)) .nilIface (((((((((((w7.setCell ⟨w6.heap.size, 0, none⟩ (.string (B a.id))).setCell ⟨w6.heap.size, 1, none⟩ (.string (B a.title))).setCell ⟨w6.heap.size, 2, none⟩ (.int .i64 a.start)).setCell ⟨w6.heap.size, 3, none⟩ (.int .i64 a.long)).setCell ⟨w6.heap.size, 4, none⟩ (.string (B a.rule.freq))).setCell ⟨w6.heap.size, 5, none⟩ (.int .i64 a.rule.every)).setCell ⟨w6.heap.size, 6, none⟩ (.slice gs.da gs.dn gs.dc)).setCell ⟨w6.heap.size, 7, none⟩ (.int .i64 a.rule.count)).setCell ⟨w6.heap.size, 8, none⟩ (.int .i64 a.rule.till)).setCell ⟨w6.heap.size, 9, none⟩ (.slice gs.sa gs.sn gs.sc)).setCell ⟨w6.heap.size, 10, none⟩ (.slice gs.ma gs.mn gs.mc))) := Lib.hid ⟨w6.heap.size, gs, rfl, rfl, ev_sets m7 _ _ _ _ _ _ _ _ _ _ _, hE7.besides (ev_besides (Besides.of_below (Below.refl _ _)) _ _ _ _ _ _ _ _ _ _ _) (hO7 _ (by simp)), ok7, ev_below B7 Z6 _ _ _ _ _ _ _ _ _ _ _⟩; have v0 := (blk_cells m7 0).trans (show _ = some (Value.string ⟨#[]⟩) from rfl); have v1 := (blk_cells m7 1).trans (show _ = some (Value.string ⟨#[]⟩) from rfl); have v2 := (blk_cells m7 2).trans (show _ = some (Value.int .i64 0) from rfl); have v3 := (blk_cells m7 3).trans (show _ = some (Value.int .i64 0) from rfl); have v4 := (blk_cells m7 4).trans (show _ = some (Value.string ⟨#[]⟩) from rfl); have v5 := (blk_cells m7 5).trans (show _ = some (Value.int .i64 0) from rfl); have v6 := (blk_cells m7 6).trans (show _ = some (Value.slice none 0 0) from rfl); have v7 := (blk_cells m7 7).trans (show _ = some (Value.int .i64 0) from rfl); have v8 := (blk_cells m7 8).trans (show _ = some (Value.int .i64 0) from rfl); have v9 := (blk_cells m7 9).trans (show _ = some (Value.slice none 0 0) from rfl); have v10 := (blk_cells m7 10).trans (show _ = some (Value.slice none 0 0) from rfl); have u0 := blk_frozens m7 0; have u1 := blk_frozens m7 1; have u2 := blk_frozens m7 2; have u3 := blk_frozens m7 3; have u4 := blk_frozens m7 4; have u5 := blk_frozens m7 5; have u6 := blk_frozens m7 6; have u7 := blk_frozens m7 7; have u8 := blk_frozens m7 8; have u9 := blk_frozens m7 9; have u10 := blk_frozens m7 10))))
        all_goals
          go_wp2_with fail
          go_meet
          exact L7.out
      case rest =>
      obtain ⟨M1, g1, rfl, rfl, hxM, hEM, okM, hbx⟩ := hcut
      have hb7c := Below.next hb7r hbx
      have K6 := sameEvent_any a g1 ha wc hEM (HEA.out.up hb7c) okM.dn okM.sn okM.mn
      rw [show evC a ha = #[.string (B a.id), .string (B a.title), .int .i64 a.start, .int .i64 a.long, .string (B a.rule.freq), .int .i64 a.rule.every, .slice ha.da ha.dn ha.dc, .int .i64 a.rule.count, .int .i64 a.rule.till, .slice ha.sa ha.sn ha.sc, .slice ha.ma ha.mn ha.mc] from rfl, show evC a g1 = #[.string (B a.id), .string (B a.title), .int .i64 a.start, .int .i64 a.long, .string (B a.rule.freq), .int .i64 a.rule.every, .slice g1.da g1.dn g1.dc, .int .i64 a.rule.count, .int .i64 a.rule.till, .slice g1.sa g1.sn g1.sc, .slice g1.ma g1.mn g1.mc] from rfl] at K6
      have HK6 := Lib.hid K6
      have hxc := HX7.out.up hb7c
      have x0 := (blk_cells hxc 0).trans (show _ = some (Value.string (B a.id)) from rfl)
      have x1 := (blk_cells hxc 1).trans (show _ = some (Value.string (B a.title)) from rfl)
      have x2 := (blk_cells hxc 2).trans (show _ = some (Value.int .i64 a.start) from rfl)
      have x3 := (blk_cells hxc 3).trans (show _ = some (Value.int .i64 a.long) from rfl)
      have x4 := (blk_cells hxc 4).trans (show _ = some (Value.string (B a.rule.freq)) from rfl)
      have x5 := (blk_cells hxc 5).trans (show _ = some (Value.int .i64 a.rule.every) from rfl)
      have x6 := (blk_cells hxc 6).trans (show _ = some (Value.slice ha.da ha.dn ha.dc) from rfl)
      have x7 := (blk_cells hxc 7).trans (show _ = some (Value.int .i64 a.rule.count) from rfl)
      have x8 := (blk_cells hxc 8).trans (show _ = some (Value.int .i64 a.rule.till) from rfl)
      have x9 := (blk_cells hxc 9).trans (show _ = some (Value.slice ha.sa ha.sn ha.sc) from rfl)
      have x10 := (blk_cells hxc 10).trans (show _ = some (Value.slice ha.ma ha.mn ha.mc) from rfl)
      have z0 := (blk_cells hxM 0).trans (show _ = some (Value.string (B a.id)) from rfl)
      have z1 := (blk_cells hxM 1).trans (show _ = some (Value.string (B a.title)) from rfl)
      have z2 := (blk_cells hxM 2).trans (show _ = some (Value.int .i64 a.start) from rfl)
      have z3 := (blk_cells hxM 3).trans (show _ = some (Value.int .i64 a.long) from rfl)
      have z4 := (blk_cells hxM 4).trans (show _ = some (Value.string (B a.rule.freq)) from rfl)
      have z5 := (blk_cells hxM 5).trans (show _ = some (Value.int .i64 a.rule.every) from rfl)
      have z6 := (blk_cells hxM 6).trans (show _ = some (Value.slice g1.da g1.dn g1.dc) from rfl)
      have z7 := (blk_cells hxM 7).trans (show _ = some (Value.int .i64 a.rule.count) from rfl)
      have z8 := (blk_cells hxM 8).trans (show _ = some (Value.int .i64 a.rule.till) from rfl)
      have z9 := (blk_cells hxM 9).trans (show _ = some (Value.slice g1.sa g1.sn g1.sc) from rfl)
      have z10 := (blk_cells hxM 10).trans (show _ = some (Value.slice g1.ma g1.mn g1.mc) from rfl)
      clear K6 hxc hxM C0 hNX hNY hFB
      go_wp2_with fail
      refine HK6.out.mono ?_
      rintro en w16 ⟨rfl, hb16⟩
      have hbr16 := Below.next hbx hb16
      have hb716 := Below.next hb7r hbr16
      have hx16 := HX7.out.up hb716
      have hy16 := hy7.out.up hb716
      have fr16 := Below.cells hbr16 FR.out
      replace x0 := (blk_cells hx16 0).trans (show _ = some (Value.string (B a.id)) from rfl)
      replace x1 := (blk_cells hx16 1).trans (show _ = some (Value.string (B a.title)) from rfl)
      replace x2 := (blk_cells hx16 2).trans (show _ = some (Value.int .i64 a.start) from rfl)
      replace x3 := (blk_cells hx16 3).trans (show _ = some (Value.int .i64 a.long) from rfl)
      replace x4 := (blk_cells hx16 4).trans (show _ = some (Value.string (B a.rule.freq)) from rfl)
      replace x5 := (blk_cells hx16 5).trans (show _ = some (Value.int .i64 a.rule.every) from rfl)
      replace x6 := (blk_cells hx16 6).trans (show _ = some (Value.slice ha.da ha.dn ha.dc) from rfl)
      replace x7 := (blk_cells hx16 7).trans (show _ = some (Value.int .i64 a.rule.count) from rfl)
      replace x8 := (blk_cells hx16 8).trans (show _ = some (Value.int .i64 a.rule.till) from rfl)
      replace x9 := (blk_cells hx16 9).trans (show _ = some (Value.slice ha.sa ha.sn ha.sc) from rfl)
      replace x10 := (blk_cells hx16 10).trans (show _ = some (Value.slice ha.ma ha.mn ha.mc) from rfl)
      have y0 := (blk_cells hy16 0).trans (show _ = some (Value.string (B b.id)) from rfl)
      have y1 := (blk_cells hy16 1).trans (show _ = some (Value.string (B b.title)) from rfl)
      have y2 := (blk_cells hy16 2).trans (show _ = some (Value.int .i64 b.start) from rfl)
      have y3 := (blk_cells hy16 3).trans (show _ = some (Value.int .i64 b.long) from rfl)
      have y4 := (blk_cells hy16 4).trans (show _ = some (Value.string (B b.rule.freq)) from rfl)
      have y5 := (blk_cells hy16 5).trans (show _ = some (Value.int .i64 b.rule.every) from rfl)
      have y6 := (blk_cells hy16 6).trans (show _ = some (Value.slice hbb.da hbb.dn hbb.dc) from rfl)
      have y7 := (blk_cells hy16 7).trans (show _ = some (Value.int .i64 b.rule.count) from rfl)
      have y8 := (blk_cells hy16 8).trans (show _ = some (Value.int .i64 b.rule.till) from rfl)
      have y9 := (blk_cells hy16 9).trans (show _ = some (Value.slice hbb.sa hbb.sn hbb.sc) from rfl)
      have y10 := (blk_cells hy16 10).trans (show _ = some (Value.slice hbb.ma hbb.mn hbb.mc) from rfl)
      have C16 : Cx2 w16 NX NY a b ha hbb ⟨fb, k, none⟩ (.string fn) := ⟨x0, x1, x2, x3, x4, x5, x6, x7, x8, x9, x10, y0, y1, y2, y3, y4, y5, y6, y7, y8, y9, y10, fr16⟩
      have hNX : NX < w16.heap.size := cell_lt x0
      have hNY : NY < w16.heap.size := cell_lt y0
      have hFB : fb < w16.heap.size := cell_lt fr16
      have HGY16 := Lib.hid (fun W (hB : Below w16.heap.size w16 W) => HGY.out W (Below.next hbr16 hB))
      have SY16 := fun W (hB : Below w16.heap.size w16 W) => HSY.out W (Below.next hbr16 hB)
      have HBR16 := Lib.hid hbr16
      have HC16 := Lib.hid C16
      clear hx16 hy16 fr16 x0 x1 x2 x3 x4 x5 x6 x7 x8 x9 x10 y0 y1 y2 y3 y4 y5 y6 y7 y8 y9 y10 z0 z1 z2 z3 z4 z5 z6 z7 z8 z9 z10 hbx hb16 hbr16 hb7c hb716 HK6 hEM okM C16
      go_upto_region 18 with fail
      have C16 := HC16.out
      cases hset : setF a k (getF b k) with
      | err c =>
        rw [hset] at SY16
        have HSY16 := Lib.hid SY16
        clear hset SY16
        go_cut [14, 13] (fun p q wx => CutErr (Er (A c)) w16 p q wx)
        case first =>
          have hw0 : Below w16.heap.size w16 w16.drew := (Below.refl _ _).drew
          have C0d : Cx2 w16.drew NX NY a b ha hbb ⟨fb, k, none⟩ (.string fn) := C16
          have hw1 : Below w16.heap.size w16 (w16.alloc (.cells zEvC 27)).drew := ((Below.refl _ _).alloc (Nat.le_refl _) _).drew
          have C1d : Cx2 (w16.alloc (.cells zEvC 27)).drew NX NY a b ha hbb ⟨fb, k, none⟩ (.string fn) := Cx2.up hw1 C16
          go_region_held3 (fun w' => w'.cell? ⟨NX, 0, none⟩ = some (.string (B a.id)) ∧ w'.cell? ⟨NX, 1, none⟩ = some (.string (B a.title)) ∧ w'.cell? ⟨NX, 2, none⟩ = some (.int .i64 a.start) ∧ w'.cell? ⟨NX, 3, none⟩ = some (.int .i64 a.long) ∧ w'.cell? ⟨NX, 4, none⟩ = some (.string (B a.rule.freq)) ∧ w'.cell? ⟨NX, 5, none⟩ = some (.int .i64 a.rule.every) ∧ w'.cell? ⟨NX, 6, none⟩ = some (.slice ha.da ha.dn ha.dc) ∧ w'.cell? ⟨NX, 7, none⟩ = some (.int .i64 a.rule.count) ∧ w'.cell? ⟨NX, 8, none⟩ = some (.int .i64 a.rule.till) ∧ w'.cell? ⟨NX, 9, none⟩ = some (.slice ha.sa ha.sn ha.sc) ∧ w'.cell? ⟨NX, 10, none⟩ = some (.slice ha.ma ha.mn ha.mc) ∧ w'.cell? ⟨NY, 0, none⟩ = some (.string (B b.id)) ∧ w'.cell? ⟨NY, 1, none⟩ = some (.string (B b.title)) ∧ w'.cell? ⟨NY, 2, none⟩ = some (.int .i64 b.start) ∧ w'.cell? ⟨NY, 3, none⟩ = some (.int .i64 b.long) ∧ w'.cell? ⟨NY, 4, none⟩ = some (.string (B b.rule.freq)) ∧ w'.cell? ⟨NY, 5, none⟩ = some (.int .i64 b.rule.every) ∧ w'.cell? ⟨NY, 6, none⟩ = some (.slice hbb.da hbb.dn hbb.dc) ∧ w'.cell? ⟨NY, 7, none⟩ = some (.int .i64 b.rule.count) ∧ w'.cell? ⟨NY, 8, none⟩ = some (.int .i64 b.rule.till) ∧ w'.cell? ⟨NY, 9, none⟩ = some (.slice hbb.sa hbb.sn hbb.sc) ∧ w'.cell? ⟨NY, 10, none⟩ = some (.slice hbb.ma hbb.mn hbb.mc) ∧ w'.cell? ⟨fb, k, none⟩ = some (.string fn))
            (with_reducible (first | exact C0d | exact C1d | exact C6 | exact C8 | exact C7 | exact Cx2.up ((Below.refl _ _).alloc (Nat.le_refl _) _) C0d | exact Cx2.up ((Below.refl _ _).alloc (Nat.le_refl _) _) C6 | exact Cx2.up ((Below.refl _ _).alloc (Nat.le_refl _) _) C7))
            (first
              | (go_at_call 14; (with_reducible refine (HGY16.out _ (by with_reducible (first | assumption | exact bel_alloc (by assumption) _))).mono ?_); rintro en w6 ⟨rfl, hb6⟩; have B6 : Below w16.heap.size w16 w6 := Below.next (by with_reducible (first | assumption | exact bel_alloc (by assumption) _)) hb6; have C6 : Cx2 w6 NX NY a b ha hbb ⟨fb, k, none⟩ (.string fn) := Cx2.up B6 C16; have Z6 := B6.size; try have m6 : w6.heap[w16.heap.size]? = some (.cells zEvC 27 (0, 0)) := (hb6.block w16.heap.size (by show w16.heap.size < (w16.alloc _).heap.size; simp)).trans (heap_alloc_new w16 _))
              | (go_at_call 13; (with_reducible refine (HSY16.out _ (by with_reducible (first | assumption | exact bel_alloc (by assumption) _))).mono ?_); rintro en w7 ⟨hb7, hc7, rfl⟩; have B7 : Below w16.heap.size w16 w7 := Below.next (by with_reducible (first | assumption | exact bel_alloc (by assumption) _)) hb7; have C7 : Cx2 w7 NX NY a b ha hbb ⟨fb, k, none⟩ (.string fn) := Cx2.up B7 C16; have Z7 := B7.size; have L7 : Hid (CutErr (Er (A c)) w16 (.pointer (some ⟨w7.heap.size, 0, none⟩)) (Er (A c)) (w7.alloc (.cells #[.string ⟨#[]⟩, .string ⟨#[]⟩, .int .i64 0, .int .i64 0, .string ⟨#[]⟩, .int .i64 0, .slice none 0 0, .int .i64 0, .int .i64 0, .slice none 0 0, .slice none 0 0] 27))) := Lib.hid ⟨w7.heap.size, rfl, rfl, bel_alloc B7 _⟩; (try (have m7 : w7.heap[w16.heap.size]? = some (.cells zEvC 27 (0, 0)) := (hb7.block w16.heap.size (Array.getElem?_eq_some_iff.1 m6).1).trans m6; have C8 : Cx2 (((((((((((w7.setCell ⟨w16.heap.size, 0, none⟩ (.string ⟨#[]⟩)).setCell ⟨w16.heap.size, 1, none⟩ (.string ⟨#[]⟩)).setCell ⟨w16.heap.size, 2, none⟩ (.int .i64 0)).setCell ⟨w16.heap.size, 3, none⟩ (.int .i64 0)).setCell ⟨w16.heap.size, 4, none⟩ (.string ⟨#[]⟩)).setCell ⟨w16.heap.size, 5, none⟩ (.int .i64 0)).setCell ⟨w16.heap.size, 6, none⟩ (.slice none 0 0)).setCell ⟨w16.heap.size, 7, none⟩ (.int .i64 0)).setCell ⟨w16.heap.size, 8, none⟩ (.int .i64 0)).setCell ⟨w16.heap.size, 9, none⟩ (.slice none 0 0)).setCell ⟨w16.heap.size, 10, none⟩ (.slice none 0 0)) NX NY a b ha hbb ⟨fb, k, none⟩ (.string fn) := Cx2.besides (ev_besides (N := w16.heap.size) (Besides.of_below (Below.refl w7.heap.size w7)) _ _ _ _ _ _ _ _ _ _ _) (by omega) (by omega) (by show fb ≠ w16.heap.size; omega) C7; have L7 : Hid (CutErr (Er (A c)) w16 (.pointer (some ⟨w16.heap.size, 0, none⟩)) (Er (A c)) (((((((((((w7.setCell ⟨w16.heap.size, 0, none⟩ (.string ⟨#[]⟩)).setCell ⟨w16.heap.size, 1, none⟩ (.string ⟨#[]⟩)).setCell ⟨w16.heap.size, 2, none⟩ (.int .i64 0)).setCell ⟨w16.heap.size, 3, none⟩ (.int .i64 0)).setCell ⟨w16.heap.size, 4, none⟩ (.string ⟨#[]⟩)).setCell ⟨w16.heap.size, 5, none⟩ (.int .i64 0)).setCell ⟨w16.heap.size, 6, none⟩ (.slice none 0 0)).setCell ⟨w16.heap.size, 7, none⟩ (.int .i64 0)).setCell ⟨w16.heap.size, 8, none⟩ (.int .i64 0)).setCell ⟨w16.heap.size, 9, none⟩ (.slice none 0 0)).setCell ⟨w16.heap.size, 10, none⟩ (.slice none 0 0))) := Lib.hid ⟨w16.heap.size, rfl, rfl, ev_below B7 (Nat.le_refl _) _ _ _ _ _ _ _ _ _ _ _⟩; have v0 := (blk_cells m7 0).trans (show _ = some (Value.string ⟨#[]⟩) from rfl); have v1 := (blk_cells m7 1).trans (show _ = some (Value.string ⟨#[]⟩) from rfl); have v2 := (blk_cells m7 2).trans (show _ = some (Value.int .i64 0) from rfl); have v3 := (blk_cells m7 3).trans (show _ = some (Value.int .i64 0) from rfl); have v4 := (blk_cells m7 4).trans (show _ = some (Value.string ⟨#[]⟩) from rfl); have v5 := (blk_cells m7 5).trans (show _ = some (Value.int .i64 0) from rfl); have v6 := (blk_cells m7 6).trans (show _ = some (Value.slice none 0 0) from rfl); have v7 := (blk_cells m7 7).trans (show _ = some (Value.int .i64 0) from rfl); have v8 := (blk_cells m7 8).trans (show _ = some (Value.int .i64 0) from rfl); have v9 := (blk_cells m7 9).trans (show _ = some (Value.slice none 0 0) from rfl); have v10 := (blk_cells m7 10).trans (show _ = some (Value.slice none 0 0) from rfl); have u0 := blk_frozens m7 0; have u1 := blk_frozens m7 1; have u2 := blk_frozens m7 2; have u3 := blk_frozens m7 3; have u4 := blk_frozens m7 4; have u5 := blk_frozens m7 5; have u6 := blk_frozens m7 6; have u7 := blk_frozens m7 7; have u8 := blk_frozens m7 8; have u9 := blk_frozens m7 9; have u10 := blk_frozens m7 10)); (try (have m7 : w7.heap[w6.heap.size]? = some (.cells zEvC 27 (0, 0)) := (hb7.block w6.heap.size (by simp)).trans (heap_alloc_new w6 _); have C8 : Cx2 (((((((((((w7.setCell ⟨w6.heap.size, 0, none⟩ (.string ⟨#[]⟩)).setCell ⟨w6.heap.size, 1, none⟩ (.string ⟨#[]⟩)).setCell ⟨w6.heap.size, 2, none⟩ (.int .i64 0)).setCell ⟨w6.heap.size, 3, none⟩ (.int .i64 0)).setCell ⟨w6.heap.size, 4, none⟩ (.string ⟨#[]⟩)).setCell ⟨w6.heap.size, 5, none⟩ (.int .i64 0)).setCell ⟨w6.heap.size, 6, none⟩ (.slice none 0 0)).setCell ⟨w6.heap.size, 7, none⟩ (.int .i64 0)).setCell ⟨w6.heap.size, 8, none⟩ (.int .i64 0)).setCell ⟨w6.heap.size, 9, none⟩ (.slice none 0 0)).setCell ⟨w6.heap.size, 10, none⟩ (.slice none 0 0)) NX NY a b ha hbb ⟨fb, k, none⟩ (.string fn) := Cx2.besides (ev_besides (N := w6.heap.size) (Besides.of_below (Below.refl w7.heap.size w7)) _ _ _ _ _ _ _ _ _ _ _) (by omega) (by omega) (by show fb ≠ w6.heap.size; omega) C7; have L7 : Hid (CutErr (Er (A c)) w16 (.pointer (some ⟨w6.heap.size, 0, none⟩)) (Er (A c)) (((((((((((w7.setCell ⟨w6.heap.size, 0, none⟩ (.string ⟨#[]⟩)).setCell ⟨w6.heap.size, 1, none⟩ (.string ⟨#[]⟩)).setCell ⟨w6.heap.size, 2, none⟩ (.int .i64 0)).setCell ⟨w6.heap.size, 3, none⟩ (.int .i64 0)).setCell ⟨w6.heap.size, 4, none⟩ (.string ⟨#[]⟩)).setCell ⟨w6.heap.size, 5, none⟩ (.int .i64 0)).setCell ⟨w6.heap.size, 6, none⟩ (.slice none 0 0)).setCell ⟨w6.heap.size, 7, none⟩ (.int .i64 0)).setCell ⟨w6.heap.size, 8, none⟩ (.int .i64 0)).setCell ⟨w6.heap.size, 9, none⟩ (.slice none 0 0)).setCell ⟨w6.heap.size, 10, none⟩ (.slice none 0 0))) := Lib.hid ⟨w6.heap.size, rfl, rfl, ev_below B7 Z6 _ _ _ _ _ _ _ _ _ _ _⟩; have v0 := (blk_cells m7 0).trans (show _ = some (Value.string ⟨#[]⟩) from rfl); have v1 := (blk_cells m7 1).trans (show _ = some (Value.string ⟨#[]⟩) from rfl); have v2 := (blk_cells m7 2).trans (show _ = some (Value.int .i64 0) from rfl); have v3 := (blk_cells m7 3).trans (show _ = some (Value.int .i64 0) from rfl); have v4 := (blk_cells m7 4).trans (show _ = some (Value.string ⟨#[]⟩) from rfl); have v5 := (blk_cells m7 5).trans (show _ = some (Value.int .i64 0) from rfl); have v6 := (blk_cells m7 6).trans (show _ = some (Value.slice none 0 0) from rfl); have v7 := (blk_cells m7 7).trans (show _ = some (Value.int .i64 0) from rfl); have v8 := (blk_cells m7 8).trans (show _ = some (Value.int .i64 0) from rfl); have v9 := (blk_cells m7 9).trans (show _ = some (Value.slice none 0 0) from rfl); have v10 := (blk_cells m7 10).trans (show _ = some (Value.slice none 0 0) from rfl); have u0 := blk_frozens m7 0; have u1 := blk_frozens m7 1; have u2 := blk_frozens m7 2; have u3 := blk_frozens m7 3; have u4 := blk_frozens m7 4; have u5 := blk_frozens m7 5; have u6 := blk_frozens m7 6; have u7 := blk_frozens m7 7; have u8 := blk_frozens m7 8; have u9 := blk_frozens m7 9; have u10 := blk_frozens m7 10))))
          all_goals
            go_wp2_with fail
            go_meet
            exact L7.out
        case rest =>
        obtain ⟨M2, rfl, rfl, hbo⟩ := hcut
        clear C16
        go_wp2_with fail
        go_quiet (fail)
        go_wp2
        go_roundw
        case rel => exact ⟨k + 1, by omega, by go_num, below_drewN (Below.next (Below.next hbr HBR16.out) hbo) _⟩
        case measure => simp [intOf]; omega
      | ok o =>
        rw [hset] at SY16
        have HSY16 := Lib.hid SY16
        have HSET := Lib.hid hset
        clear hset SY16
        go_cut [14, 13] (fun p q wx => CutPost o w16 p q wx)
        case first =>
          have hw0 : Below w16.heap.size w16 w16.drew := (Below.refl _ _).drew
          have C0d : Cx2 w16.drew NX NY a b ha hbb ⟨fb, k, none⟩ (.string fn) := C16
          have hw1 : Below w16.heap.size w16 (w16.alloc (.cells zEvC 27)).drew := ((Below.refl _ _).alloc (Nat.le_refl _) _).drew
          have C1d : Cx2 (w16.alloc (.cells zEvC 27)).drew NX NY a b ha hbb ⟨fb, k, none⟩ (.string fn) := Cx2.up hw1 C16
          go_region_held3 (fun w' => w'.cell? ⟨NX, 0, none⟩ = some (.string (B a.id)) ∧ w'.cell? ⟨NX, 1, none⟩ = some (.string (B a.title)) ∧ w'.cell? ⟨NX, 2, none⟩ = some (.int .i64 a.start) ∧ w'.cell? ⟨NX, 3, none⟩ = some (.int .i64 a.long) ∧ w'.cell? ⟨NX, 4, none⟩ = some (.string (B a.rule.freq)) ∧ w'.cell? ⟨NX, 5, none⟩ = some (.int .i64 a.rule.every) ∧ w'.cell? ⟨NX, 6, none⟩ = some (.slice ha.da ha.dn ha.dc) ∧ w'.cell? ⟨NX, 7, none⟩ = some (.int .i64 a.rule.count) ∧ w'.cell? ⟨NX, 8, none⟩ = some (.int .i64 a.rule.till) ∧ w'.cell? ⟨NX, 9, none⟩ = some (.slice ha.sa ha.sn ha.sc) ∧ w'.cell? ⟨NX, 10, none⟩ = some (.slice ha.ma ha.mn ha.mc) ∧ w'.cell? ⟨NY, 0, none⟩ = some (.string (B b.id)) ∧ w'.cell? ⟨NY, 1, none⟩ = some (.string (B b.title)) ∧ w'.cell? ⟨NY, 2, none⟩ = some (.int .i64 b.start) ∧ w'.cell? ⟨NY, 3, none⟩ = some (.int .i64 b.long) ∧ w'.cell? ⟨NY, 4, none⟩ = some (.string (B b.rule.freq)) ∧ w'.cell? ⟨NY, 5, none⟩ = some (.int .i64 b.rule.every) ∧ w'.cell? ⟨NY, 6, none⟩ = some (.slice hbb.da hbb.dn hbb.dc) ∧ w'.cell? ⟨NY, 7, none⟩ = some (.int .i64 b.rule.count) ∧ w'.cell? ⟨NY, 8, none⟩ = some (.int .i64 b.rule.till) ∧ w'.cell? ⟨NY, 9, none⟩ = some (.slice hbb.sa hbb.sn hbb.sc) ∧ w'.cell? ⟨NY, 10, none⟩ = some (.slice hbb.ma hbb.mn hbb.mc) ∧ w'.cell? ⟨fb, k, none⟩ = some (.string fn))
            (with_reducible (first | exact C0d | exact C1d | exact C6 | exact C8 | exact C7 | exact Cx2.up ((Below.refl _ _).alloc (Nat.le_refl _) _) C0d | exact Cx2.up ((Below.refl _ _).alloc (Nat.le_refl _) _) C6 | exact Cx2.up ((Below.refl _ _).alloc (Nat.le_refl _) _) C7))
            (first
              | (go_at_call 14; (with_reducible refine (HGY16.out _ (by with_reducible (first | assumption | exact bel_alloc (by assumption) _))).mono ?_); rintro en w6 ⟨rfl, hb6⟩; have B6 : Below w16.heap.size w16 w6 := Below.next (by with_reducible (first | assumption | exact bel_alloc (by assumption) _)) hb6; have C6 : Cx2 w6 NX NY a b ha hbb ⟨fb, k, none⟩ (.string fn) := Cx2.up B6 C16; have Z6 := B6.size; try have m6 : w6.heap[w16.heap.size]? = some (.cells zEvC 27 (0, 0)) := (hb6.block w16.heap.size (by show w16.heap.size < (w16.alloc _).heap.size; simp)).trans (heap_alloc_new w16 _))
              | (go_at_call 13; (with_reducible refine (HSY16.out _ (by with_reducible (first | assumption | exact bel_alloc (by assumption) _))).mono ?_); rintro en w7 ⟨hb7, gs, rfl, hE7, ok7, hO7⟩; rw [show evC o gs = #[.string (B o.id), .string (B o.title), .int .i64 o.start, .int .i64 o.long, .string (B o.rule.freq), .int .i64 o.rule.every, .slice gs.da gs.dn gs.dc, .int .i64 o.rule.count, .int .i64 o.rule.till, .slice gs.sa gs.sn gs.sc, .slice gs.ma gs.mn gs.mc] from rfl]; have B7 : Below w16.heap.size w16 w7 := Below.next (by with_reducible (first | assumption | exact bel_alloc (by assumption) _)) hb7; have C7 : Cx2 w7 NX NY a b ha hbb ⟨fb, k, none⟩ (.string fn) := Cx2.up B7 C16; have Z7 := B7.size; have L7 : Hid (CutPost o w16 (.pointer (some ⟨w7.heap.size, 0, none⟩)) .nilIface (w7.alloc (.cells #[.string (B o.id), .string (B o.title), .int .i64 o.start, .int .i64 o.long, .string (B o.rule.freq), .int .i64 o.rule.every, .slice gs.da gs.dn gs.dc, .int .i64 o.rule.count, .int .i64 o.rule.till, .slice gs.sa gs.sn gs.sc, .slice gs.ma gs.mn gs.mc] 27))) := Lib.hid ⟨w7.heap.size, gs, rfl, rfl, heap_alloc_new w7 _, hE7.up ((Below.refl _ _).alloc (Nat.le_refl _) _), ok7, bel_alloc B7 _⟩; (try (have m7 : w7.heap[w16.heap.size]? = some (.cells zEvC 27 (0, 0)) := (hb7.block w16.heap.size (Array.getElem?_eq_some_iff.1 m6).1).trans m6; have C8 : Cx2 (((((((((((w7.setCell ⟨w16.heap.size, 0, none⟩ (.string (B o.id))).setCell ⟨w16.heap.size, 1, none⟩ (.string (B o.title))).setCell ⟨w16.heap.size, 2, none⟩ (.int .i64 o.start)).setCell ⟨w16.heap.size, 3, none⟩ (.int .i64 o.long)).setCell ⟨w16.heap.size, 4, none⟩ (.string (B o.rule.freq))).setCell ⟨w16.heap.size, 5, none⟩ (.int .i64 o.rule.every)).setCell ⟨w16.heap.size, 6, none⟩ (.slice gs.da gs.dn gs.dc)).setCell ⟨w16.heap.size, 7, none⟩ (.int .i64 o.rule.count)).setCell ⟨w16.heap.size, 8, none⟩ (.int .i64 o.rule.till)).setCell ⟨w16.heap.size, 9, none⟩ (.slice gs.sa gs.sn gs.sc)).setCell ⟨w16.heap.size, 10, none⟩ (.slice gs.ma gs.mn gs.mc)) NX NY a b ha hbb ⟨fb, k, none⟩ (.string fn) := Cx2.besides (ev_besides (N := w16.heap.size) (Besides.of_below (Below.refl w7.heap.size w7)) _ _ _ _ _ _ _ _ _ _ _) (by omega) (by omega) (by show fb ≠ w16.heap.size; omega) C7; have L7 : Hid (CutPost o w16 (.pointer (some ⟨w16.heap.size, 0, none⟩)) .nilIface (((((((((((w7.setCell ⟨w16.heap.size, 0, none⟩ (.string (B o.id))).setCell ⟨w16.heap.size, 1, none⟩ (.string (B o.title))).setCell ⟨w16.heap.size, 2, none⟩ (.int .i64 o.start)).setCell ⟨w16.heap.size, 3, none⟩ (.int .i64 o.long)).setCell ⟨w16.heap.size, 4, none⟩ (.string (B o.rule.freq))).setCell ⟨w16.heap.size, 5, none⟩ (.int .i64 o.rule.every)).setCell ⟨w16.heap.size, 6, none⟩ (.slice gs.da gs.dn gs.dc)).setCell ⟨w16.heap.size, 7, none⟩ (.int .i64 o.rule.count)).setCell ⟨w16.heap.size, 8, none⟩ (.int .i64 o.rule.till)).setCell ⟨w16.heap.size, 9, none⟩ (.slice gs.sa gs.sn gs.sc)).setCell ⟨w16.heap.size, 10, none⟩ (.slice gs.ma gs.mn gs.mc))) := Lib.hid ⟨w16.heap.size, gs, rfl, rfl, ev_sets m7 _ _ _ _ _ _ _ _ _ _ _, hE7.besides (ev_besides (Besides.of_below (Below.refl _ _)) _ _ _ _ _ _ _ _ _ _ _) (hO7 _ (Array.getElem?_eq_some_iff.1 m6).1), ok7, ev_below B7 (Nat.le_refl _) _ _ _ _ _ _ _ _ _ _ _⟩; have v0 := (blk_cells m7 0).trans (show _ = some (Value.string ⟨#[]⟩) from rfl); have v1 := (blk_cells m7 1).trans (show _ = some (Value.string ⟨#[]⟩) from rfl); have v2 := (blk_cells m7 2).trans (show _ = some (Value.int .i64 0) from rfl); have v3 := (blk_cells m7 3).trans (show _ = some (Value.int .i64 0) from rfl); have v4 := (blk_cells m7 4).trans (show _ = some (Value.string ⟨#[]⟩) from rfl); have v5 := (blk_cells m7 5).trans (show _ = some (Value.int .i64 0) from rfl); have v6 := (blk_cells m7 6).trans (show _ = some (Value.slice none 0 0) from rfl); have v7 := (blk_cells m7 7).trans (show _ = some (Value.int .i64 0) from rfl); have v8 := (blk_cells m7 8).trans (show _ = some (Value.int .i64 0) from rfl); have v9 := (blk_cells m7 9).trans (show _ = some (Value.slice none 0 0) from rfl); have v10 := (blk_cells m7 10).trans (show _ = some (Value.slice none 0 0) from rfl); have u0 := blk_frozens m7 0; have u1 := blk_frozens m7 1; have u2 := blk_frozens m7 2; have u3 := blk_frozens m7 3; have u4 := blk_frozens m7 4; have u5 := blk_frozens m7 5; have u6 := blk_frozens m7 6; have u7 := blk_frozens m7 7; have u8 := blk_frozens m7 8; have u9 := blk_frozens m7 9; have u10 := blk_frozens m7 10)); (try (have m7 : w7.heap[w6.heap.size]? = some (.cells zEvC 27 (0, 0)) := (hb7.block w6.heap.size (by simp)).trans (heap_alloc_new w6 _); have C8 : Cx2 (((((((((((w7.setCell ⟨w6.heap.size, 0, none⟩ (.string (B o.id))).setCell ⟨w6.heap.size, 1, none⟩ (.string (B o.title))).setCell ⟨w6.heap.size, 2, none⟩ (.int .i64 o.start)).setCell ⟨w6.heap.size, 3, none⟩ (.int .i64 o.long)).setCell ⟨w6.heap.size, 4, none⟩ (.string (B o.rule.freq))).setCell ⟨w6.heap.size, 5, none⟩ (.int .i64 o.rule.every)).setCell ⟨w6.heap.size, 6, none⟩ (.slice gs.da gs.dn gs.dc)).setCell ⟨w6.heap.size, 7, none⟩ (.int .i64 o.rule.count)).setCell ⟨w6.heap.size, 8, none⟩ (.int .i64 o.rule.till)).setCell ⟨w6.heap.size, 9, none⟩ (.slice gs.sa gs.sn gs.sc)).setCell ⟨w6.heap.size, 10, none⟩ (.slice gs.ma gs.mn gs.mc)) NX NY a b ha hbb ⟨fb, k, none⟩ (.string fn) := Cx2.besides (ev_besides (N := w6.heap.size) (Besides.of_below (Below.refl w7.heap.size w7)) _ _ _ _ _ _ _ _ _ _ _) (by omega) (by omega) (by show fb ≠ w6.heap.size; omega) C7; have L7 : Hid (CutPost o w16 (.pointer (some ⟨w6.heap.size, 0, none⟩)) .nilIface (((((((((((w7.setCell ⟨w6.heap.size, 0, none⟩ (.string (B o.id))).setCell ⟨w6.heap.size, 1, none⟩ (.string (B o.title))).setCell ⟨w6.heap.size, 2, none⟩ (.int .i64 o.start)).setCell ⟨w6.heap.size, 3, none⟩ (.int .i64 o.long)).setCell ⟨w6.heap.size, 4, none⟩ (.string (B o.rule.freq))).setCell ⟨w6.heap.size, 5, none⟩ (.int .i64 o.rule.every)).setCell ⟨w6.heap.size, 6, none⟩ (.slice gs.da gs.dn gs.dc)).setCell ⟨w6.heap.size, 7, none⟩ (.int .i64 o.rule.count)).setCell ⟨w6.heap.size, 8, none⟩ (.int .i64 o.rule.till)).setCell ⟨w6.heap.size, 9, none⟩ (.slice gs.sa gs.sn gs.sc)).setCell ⟨w6.heap.size, 10, none⟩ (.slice gs.ma gs.mn gs.mc))) := Lib.hid ⟨w6.heap.size, gs, rfl, rfl, ev_sets m7 _ _ _ _ _ _ _ _ _ _ _, hE7.besides (ev_besides (Besides.of_below (Below.refl _ _)) _ _ _ _ _ _ _ _ _ _ _) (hO7 _ (by simp)), ok7, ev_below B7 Z6 _ _ _ _ _ _ _ _ _ _ _⟩; have v0 := (blk_cells m7 0).trans (show _ = some (Value.string ⟨#[]⟩) from rfl); have v1 := (blk_cells m7 1).trans (show _ = some (Value.string ⟨#[]⟩) from rfl); have v2 := (blk_cells m7 2).trans (show _ = some (Value.int .i64 0) from rfl); have v3 := (blk_cells m7 3).trans (show _ = some (Value.int .i64 0) from rfl); have v4 := (blk_cells m7 4).trans (show _ = some (Value.string ⟨#[]⟩) from rfl); have v5 := (blk_cells m7 5).trans (show _ = some (Value.int .i64 0) from rfl); have v6 := (blk_cells m7 6).trans (show _ = some (Value.slice none 0 0) from rfl); have v7 := (blk_cells m7 7).trans (show _ = some (Value.int .i64 0) from rfl); have v8 := (blk_cells m7 8).trans (show _ = some (Value.int .i64 0) from rfl); have v9 := (blk_cells m7 9).trans (show _ = some (Value.slice none 0 0) from rfl); have v10 := (blk_cells m7 10).trans (show _ = some (Value.slice none 0 0) from rfl); have u0 := blk_frozens m7 0; have u1 := blk_frozens m7 1; have u2 := blk_frozens m7 2; have u3 := blk_frozens m7 3; have u4 := blk_frozens m7 4; have u5 := blk_frozens m7 5; have u6 := blk_frozens m7 6; have u7 := blk_frozens m7 7; have u8 := blk_frozens m7 8; have u9 := blk_frozens m7 9; have u10 := blk_frozens m7 10))))
          all_goals
            go_wp2_with fail
            go_meet
            exact L7.out
        case rest =>
        obtain ⟨M2, g2, rfl, rfl, hxO, hEO, okO, hbo⟩ := hcut
        have hb0 := Below.next HBR16.out hbo
        have GO2 := fun W (hB : Below wc.heap.size wc W) => HGO.out o g2 W (Below.next hb0 hB) HSET.out (hEO.up hB) okO
        rw [SO.out o HSET.out, show evC o g2 = #[.string (B o.id), .string (B o.title), .int .i64 o.start, .int .i64 o.long, .string (B o.rule.freq), .int .i64 o.rule.every, .slice g2.da g2.dn g2.dc, .int .i64 o.rule.count, .int .i64 o.rule.till, .slice g2.sa g2.sn g2.sc, .slice g2.ma g2.mn g2.mc] from rfl] at GO2
        have GY2 := fun W (hB : Below wc.heap.size wc W) => HGY.out W (Below.next hb0 hB)
        have hyc := hy7.out.up (Below.next hb7r hb0)
        have frc := Below.cells hb0 FR.out
        have x0 := (blk_cells hxO 0).trans (show _ = some (Value.string (B o.id)) from rfl)
        have x1 := (blk_cells hxO 1).trans (show _ = some (Value.string (B o.title)) from rfl)
        have x2 := (blk_cells hxO 2).trans (show _ = some (Value.int .i64 o.start) from rfl)
        have x3 := (blk_cells hxO 3).trans (show _ = some (Value.int .i64 o.long) from rfl)
        have x4 := (blk_cells hxO 4).trans (show _ = some (Value.string (B o.rule.freq)) from rfl)
        have x5 := (blk_cells hxO 5).trans (show _ = some (Value.int .i64 o.rule.every) from rfl)
        have x6 := (blk_cells hxO 6).trans (show _ = some (Value.slice g2.da g2.dn g2.dc) from rfl)
        have x7 := (blk_cells hxO 7).trans (show _ = some (Value.int .i64 o.rule.count) from rfl)
        have x8 := (blk_cells hxO 8).trans (show _ = some (Value.int .i64 o.rule.till) from rfl)
        have x9 := (blk_cells hxO 9).trans (show _ = some (Value.slice g2.sa g2.sn g2.sc) from rfl)
        have x10 := (blk_cells hxO 10).trans (show _ = some (Value.slice g2.ma g2.mn g2.mc) from rfl)
        have y0 := (blk_cells hyc 0).trans (show _ = some (Value.string (B b.id)) from rfl)
        have y1 := (blk_cells hyc 1).trans (show _ = some (Value.string (B b.title)) from rfl)
        have y2 := (blk_cells hyc 2).trans (show _ = some (Value.int .i64 b.start) from rfl)
        have y3 := (blk_cells hyc 3).trans (show _ = some (Value.int .i64 b.long) from rfl)
        have y4 := (blk_cells hyc 4).trans (show _ = some (Value.string (B b.rule.freq)) from rfl)
        have y5 := (blk_cells hyc 5).trans (show _ = some (Value.int .i64 b.rule.every) from rfl)
        have y6 := (blk_cells hyc 6).trans (show _ = some (Value.slice hbb.da hbb.dn hbb.dc) from rfl)
        have y7 := (blk_cells hyc 7).trans (show _ = some (Value.int .i64 b.rule.count) from rfl)
        have y8 := (blk_cells hyc 8).trans (show _ = some (Value.int .i64 b.rule.till) from rfl)
        have y9 := (blk_cells hyc 9).trans (show _ = some (Value.slice hbb.sa hbb.sn hbb.sc) from rfl)
        have y10 := (blk_cells hyc 10).trans (show _ = some (Value.slice hbb.ma hbb.mn hbb.mc) from rfl)
        have D0 : Cx2 wc.drew M2 NY o b g2 hbb ⟨fb, k, none⟩ (.string fn) := ⟨x0, x1, x2, x3, x4, x5, x6, x7, x8, x9, x10, y0, y1, y2, y3, y4, y5, y6, y7, y8, y9, y10, frc⟩
        have HGO2 := Lib.hid GO2
        have HGY2 := Lib.hid GY2
        have hw0 : Below wc.heap.size wc wc.drew := (Below.refl _ _).drew
        have HB0 := Lib.hid (Below.next hbr hb0)
        clear GO2 GY2 hyc frc x0 x1 x2 x3 x4 x5 x6 x7 x8 x9 x10 y0 y1 y2 y3 y4 y5 y6 y7 y8 y9 y10 hxO hEO okO hbo hb0 C16
        go_wp2_with fail
        go_region_held3 (fun w' => w'.cell? ⟨M2, 0, none⟩ = some (.string (B o.id)) ∧ w'.cell? ⟨M2, 1, none⟩ = some (.string (B o.title)) ∧ w'.cell? ⟨M2, 2, none⟩ = some (.int .i64 o.start) ∧ w'.cell? ⟨M2, 3, none⟩ = some (.int .i64 o.long) ∧ w'.cell? ⟨M2, 4, none⟩ = some (.string (B o.rule.freq)) ∧ w'.cell? ⟨M2, 5, none⟩ = some (.int .i64 o.rule.every) ∧ w'.cell? ⟨M2, 6, none⟩ = some (.slice g2.da g2.dn g2.dc) ∧ w'.cell? ⟨M2, 7, none⟩ = some (.int .i64 o.rule.count) ∧ w'.cell? ⟨M2, 8, none⟩ = some (.int .i64 o.rule.till) ∧ w'.cell? ⟨M2, 9, none⟩ = some (.slice g2.sa g2.sn g2.sc) ∧ w'.cell? ⟨M2, 10, none⟩ = some (.slice g2.ma g2.mn g2.mc) ∧ w'.cell? ⟨NY, 0, none⟩ = some (.string (B b.id)) ∧ w'.cell? ⟨NY, 1, none⟩ = some (.string (B b.title)) ∧ w'.cell? ⟨NY, 2, none⟩ = some (.int .i64 b.start) ∧ w'.cell? ⟨NY, 3, none⟩ = some (.int .i64 b.long) ∧ w'.cell? ⟨NY, 4, none⟩ = some (.string (B b.rule.freq)) ∧ w'.cell? ⟨NY, 5, none⟩ = some (.int .i64 b.rule.every) ∧ w'.cell? ⟨NY, 6, none⟩ = some (.slice hbb.da hbb.dn hbb.dc) ∧ w'.cell? ⟨NY, 7, none⟩ = some (.int .i64 b.rule.count) ∧ w'.cell? ⟨NY, 8, none⟩ = some (.int .i64 b.rule.till) ∧ w'.cell? ⟨NY, 9, none⟩ = some (.slice hbb.sa hbb.sn hbb.sc) ∧ w'.cell? ⟨NY, 10, none⟩ = some (.slice hbb.ma hbb.mn hbb.mc) ∧ w'.cell? ⟨fb, k, none⟩ = some (.string fn))
          (with_reducible (first | exact D0 | exact D6 | exact D7))
          (first
            | (go_at_call 14; (with_reducible refine (HGO2.out _ hw0).mono ?_); rintro en w20 ⟨rfl, hb20⟩; have B20 := Below.next hw0 hb20; have D6 : Cx2 w20 M2 NY o b g2 hbb ⟨fb, k, none⟩ (.string fn) := Cx2.up hb20 D0)
            | (go_at_call 14; (with_reducible refine (HGY2.out _ B20).mono ?_); rintro en w21 ⟨rfl, hb21⟩; have B21 := Below.next B20 hb21; have D7 : Cx2 w21 M2 NY o b g2 hbb ⟨fb, k, none⟩ (.string fn) := Cx2.up hb21 D6))
        clear D0 D6 D7
        go_wp2
        go_roundw
        case rel => exact ⟨k + 1, by omega, by go_num, Below.next HB0.out B21⟩
        case measure => simp [intOf]; omega
end Go.Proofs.YtakainogpokhgaaGreatDoor
