/- PROVED: lammastidelaw1.EventBack answers true for every two events, and leaves both as they were (the row, and its card tied to the program's text). Condition: the listed package-level variables (sentinel errors of package api and of strconv, and tables of the library) hold at the call what the program's text lays. -/
import Derived.Test.YtakainogpokhgaaGreatDoorLawD
import Derived.Test.YtakainogpokhgaaGreatDoorOpen
import Derived.Test.YtakainogpokhgaaGreatDoorRows
import Derived.Test.YtakainogpokhgaaGreatDoorCards
import Derived.Test.YtakainogpokhgaaGreatDoorTie
import Derived.ProofKit
import Derived.OpenShut
import Derived.LaidMore
import Derived.Lay
import Derived.SevenTiedAt
import Derived.Stop.Joined
import Derived.Stop.LaidErr
import Derived.Lib.LaidTab
import Derived.ShapedOpen
import Derived.Carry
namespace Go.Proofs.YtakainogpokhgaaGreatDoor
open Go.RowKit Go.ChangeShapes Go.WideShapes Go.ChangeAt Lam

set_option maxRecDepth 100000
theorem own_ : ownKnob Tryz.prog.godebug = none := by kernel_rfl
theorem star_ : ("*errors.errorString" : String) = "*" ++ "errors.errorString" := by decide
theorem row_ (u : TypeId) (h : Tryz.prog.typeName? 3 u = some "*errors.errorString") : u = 212 :=
  typeName_ptr_named (nm := "errors.errorString") (by rw [← star_]; kernel_rfl) (by kernel_rfl) (by decide) u (by rw [← star_]; exact h)
theorem cellsE_ : Tryz.prog.cellsOf 214 = 1 := by kernel_rfl
theorem cellsS_ : Tryz.prog.cellsOf 9 = 1 := by kernel_rfl
theorem pow_ : (Rows.laid_internal_strconv_uint64pow10 : DataW Unit) = Lib.tabData .u64 Lib.pow10Tab := by kernel_rfl
/-- a sentinel's cell, out of the head of the list -/
theorem sent_ {n : String} {text : List UInt8} {r : List (String × DataW Unit)} {W : World} {g : Nat} (hg : Tryz.prog.globalNamed n = some g) (ht : (Tryz.prog.globals[g]?).map (·.type) = some 32)
    (h : laidMet Tryz.prog ((n, .iface "*errors.errorString" (.ptr (.agg [.lit (.string text)]))) :: r) W) : ∃ a, W.cell? ⟨g, 0, none⟩ = some (Er a) := by
  obtain ⟨a, s, hv, _⟩ := laid_sentinel h hg ht Tryz.underlying32 row_ Tryz.underlying212 Tryz.underlying214 rfl rfl Tryz.underlying9 cellsE_ cellsS_
  exact ⟨a, by simpa using World.var?_cell hg hv 0⟩
def backS : Nat → Bool := fun c => [1, 2, 3, 4, 6, 7, 8].contains c
theorem env_of_laid {W : World} (h : laidMetH Tryz.prog Rows.eventBackRow.laid W) (hsh : W.ShapedOpen Tryz.prog) : ∃ A, Env backS W A := by
  rw [MakeChecks.laidMetH_plain _ _ _ (by kernel_rfl)] at h
  have t0 : laidMet Tryz.prog (("internal/strconv.uint64pow10", Rows.laid_internal_strconv_uint64pow10) :: _) W := h.tail.tail
  have t1 := t0.tail.tail
  have hp : Lib.TabIs Tryz.prog W "internal/strconv.uint64pow10" .u64 Lib.pow10Tab := by
    have := t0
    rw [pow_] at this
    exact Lib.tabIs_of_head (g := 12) (by kernel_rfl) (by kernel_rfl) Tryz.underlying193 Tryz.underlying176 (by kernel_rfl) (by kernel_rfl) this
  obtain ⟨a1, e1⟩ := sent_ (n := "lammastide/api.ErrText") (g := 1) (by kernel_rfl) (by kernel_rfl) t1
  have t2 := t1.tail
  obtain ⟨a2, e2⟩ := sent_ (n := "lammastide/api.ErrBound") (g := 2) (by kernel_rfl) (by kernel_rfl) t2
  have t3 := t2.tail
  obtain ⟨a3, e3⟩ := sent_ (n := "lammastide/api.ErrShape") (g := 4) (by kernel_rfl) (by kernel_rfl) t3
  have t4 := t3.tail
  obtain ⟨a4, e4⟩ := sent_ (n := "lammastide/api.ErrName") (g := 0) (by kernel_rfl) (by kernel_rfl) t4
  have t6 := t4.tail
  obtain ⟨a6, e6⟩ := sent_ (n := "lammastide/api.ErrExist") (g := 7) (by kernel_rfl) (by kernel_rfl) t6
  have t7 := t6.tail
  obtain ⟨a7, e7⟩ := sent_ (n := "lammastide/api.ErrFull") (g := 6) (by kernel_rfl) (by kernel_rfl) t7
  have t8 := t7.tail
  obtain ⟨a8, e8⟩ := sent_ (n := "lammastide/api.ErrOrder") (g := 5) (by kernel_rfl) (by kernel_rfl) t8
  have tr := t8.tail
  obtain ⟨ar, er⟩ := sent_ (n := "strconv.ErrRange") (g := 11) (by kernel_rfl) (by kernel_rfl) tr
  have ts := tr.tail
  obtain ⟨as', es⟩ := sent_ (n := "strconv.ErrSyntax") (g := 10) (by kernel_rfl) (by kernel_rfl) ts
  refine ⟨fun c => match c with | 1 => a1 | 2 => a2 | 3 => a3 | 4 => a4 | 6 => a6 | 7 => a7 | _ => a8, ?_, hp, hsh, ⟨_, _, es⟩, ⟨_, _, er⟩⟩
  intro c hc
  have hm : c ∈ [1, 2, 3, 4, 6, 7, 8] := by simpa [backS] using hc
  simp only [List.mem_cons, List.not_mem_nil, or_false] at hm
  rcases hm with rfl | rfl | rfl | rfl | rfl | rfl | rfl
  · exact e1
  · exact e2
  · exact e3
  · exact e4
  · exact e6
  · exact e7
  · exact e8
/-- the frame's wrap that hands on both what is laid and the world's shape -/
theorem returns_laid {H : Type} {enc : TypeId × Value → H} {a : Assume} {C : Checked} {os : Os} {f : FuncId} {fn : Func} {s : ChangeSpec} {conds : List PathCond} {apart fresh handsOn again : Bool} {X : World → Array Value → Prop}
    (hX : ∀ (w w' : World) (args : Array Value), w.heap = w'.heap → X w args → X w' args)
    (own : ownKnob C.prog.godebug = none) (started : os.Started) (noInit : C.prog.inits.idxOf? f = none) (hfn : C.prog.funcs[f]? = some fn)
    (witness : ∃ (w : World) (tape : Tape) (i : Input), w.os = os ∧ (w.forCall tape i).Shaped C.prog ∧ i.vars = [] ∧ Input.okWide C.prog (w.forCall tape i) .any w.heap.size f i ∧
      ((s.pre enc C.prog fn conds apart (w.forCall tape i).memory i.args ∧ X (w.forCall tape i).memory i.args) ∧ sizedMet enc C.prog fn (OpenSpec.ofChange s) apart (w.forCall tape i).memory i.args) ∧ a.holds C.prog (lone (Frame.enter C.prog f i.args .normal) [] (w.forCall tape i)))
    (contract : ∀ (W : World) (args : Array Value) (ds gs : List (DataW H)) (before : List MemPlace),
      (∃ base, ∀ (j : Nat) t v, fn.params[j]? = some t → args[j]? = some v → Value.okWide C.prog W .any base t v) →
      DataW.Whole enc C.prog fn.params.toList s.vars apart W args.toList ds gs before → X W args → W.ShapedOpen C.prog →
      Calls C.prog f args W fun e W' => ∃ v, e = .returned v ∧ s.post enc C.prog fn apart fresh handsOn again W args v W') :
    ReturnsInHanded a C os f .any (fun w args => (s.pre enc C.prog fn conds apart w args ∧ X w args) ∧ sizedMet enc C.prog fn (OpenSpec.ofChange s) apart w args) (s.post enc C.prog fn apart fresh handsOn again) := by
  refine returnsInHanded_of_calls own started noInit witness ?_
  intro w tape i _ hsh _ hok hpre _
  obtain ⟨_, _, _, fn', hfn', _, _, _, _, hval⟩ := hok
  have e : fn' = fn := Option.some.inj (hfn'.symm.trans hfn)
  subst e
  obtain ⟨⟨⟨ds, gs, before, hw, _⟩, hx⟩, _⟩ := hpre
  have hw' := DataW.Whole.of_heap (w' := w.forCall tape i) (by rfl) hw
  refine (contract (w.forCall tape i) i.args ds gs before ⟨w.heap.size, hval⟩ hw' (hX _ _ _ (by rfl) hx) hsh).mono fun e W' ⟨v, he, hp⟩ => ?_
  subst he
  exact ChangeSpec.post_blind hp
theorem out_ : laidOutB Tryz.prog = true := by kernel_rfl
theorem lifted (os : Os) (started : os.Started) (H : Type) (enc : TypeId × Value → H) :
    ReturnsInHanded {} Tryz.checked os 3 .any (fun w args => (Rows.eventBackSpec.pre enc Tryz.prog Tryz.f3 [] false w args ∧ laidMetH Tryz.prog Rows.eventBackRow.laid w) ∧ sizedMet enc Tryz.prog Tryz.f3 (OpenSpec.ofChange Rows.eventBackSpec) false w args)
      (Rows.eventBackSpec.post enc Tryz.prog Tryz.f3 false true false false) := by
  refine returns_laid (C := Tryz.checked) (X := fun w _ => laidMetH Tryz.prog Rows.eventBackRow.laid w) (fun _ _ _ hh h => h.of_heap hh) own_ started (by kernel_rfl) Tryz.func3
    (ChangeSpec.witness_shaped (enc := enc) (C := Tryz.checked) (os := os) (X := fun w _ => laidMetH Tryz.prog Rows.eventBackRow.laid w) false (World.laidAll Tryz.prog os Rows.eventBackRow.laid) #[.agg zEvC, .agg zEvC] 8 (World.laidAll_os _ _ _)
      (World.shaped_of_ZipB (by kernel_rfl) (by kernel_rfl)) (by kernel_rfl) (by kernel_rfl) (by kernel_rfl)
      (by rw [MakeChecks.laidMetH_plain _ _ _ (by kernel_rfl)]; exact laidMet_laidAll _ (by kernel_rfl) (by kernel_rfl))) ?_
  intro W args ds gs before hval0 hW hL hsh
  obtain ⟨base, hval1⟩ := hval0
  have hval : ∀ (j : Nat) t v, Tryz.f3.params[j]? = some t → args[j]? = some v → Value.okWide Tryz.prog W .any base t v := hval1
  have hW' := hW
  have hlt := hW.lt
  obtain ⟨p, q, hA0, hV, rfl, hfz, hnd⟩ := hW
  have hA : DataW.TrodAll enc Tryz.prog W 0 (fun _ => true) true Tryz.f3.params.toList args.toList ds p := hA0
  rw [Tryz.params3] at hA hval
  obtain ⟨v0, v1, d0, d1, p0, p1, rfl, rfl, rfl, h0, h1⟩ := trodAll_two hA
  obtain ⟨rfl, rfl⟩ := trodVars_none hV
  obtain ⟨a, ga, rfl, ra, na⟩ := open_event (hval 0 _ _ rfl rfl) h0
  obtain ⟨b, gb, rfl, rb, nb⟩ := open_event (hval 1 _ _ rfl rfl) h1
  obtain ⟨A, E⟩ := env_of_laid hL hsh
  simp only [List.append_nil] at hW' hlt
  refine (eventBack_any a b ga gb W E (by decide) (by decide) (by decide) (by decide) (by decide) (by decide) (by decide) ra rb na nb).mono ?_
  rintro e W' ⟨rfl, hb⟩
  have l0 : ∀ x ∈ p0, x.block < W.heap.size := fun x hx => hlt x (List.mem_append_left _ hx)
  have l1 : ∀ x ∈ p1, x.block < W.heap.size := fun x hx => hlt x (List.mem_append_right _ hx)
  have re : Tryz.prog.readableRec 27 = true := by kernel_rfl
  have rs : 27 < Tryz.prog.types.size := of_decide_eq_true (by kernel_rfl)
  have k0 := Below.trod out_ re rs h0 hb l0
  have k1 := Below.trod out_ re rs h1 hb l1
  refine ⟨_, rfl, [d0, d1], [], p0 ++ p1, [], p0 ++ p1, [], hW', ?_, ?_, ?_, hb.frame _, fun h => by cases h⟩
  · exact trodAll_mk1 (shut_bool Tryz.underlying4 true)
  · exact trodAll_mk2 k0 k1
  · rfl
theorem eventBack_holds : Rows.EventBackSaid :=
  OpenClaim.holds_of_wide 3 Tryz.f3 rfl rfl rfl rfl rfl rfl rfl ⟨rfl, rfl, rfl, rfl, rfl⟩ rfl rfl rfl rfl rfl (by kernel_rfl) Tryz.func3 (by kernel_rfl)
    (of_decide_eq_true (by kernel_rfl)) (by unfold Func.isWrapper; first | (rw [if_pos (by decide +kernel)]; kernel_rfl) | (rw [if_neg (by decide +kernel)]; exact ⟨rfl, rfl⟩))
    (fun os started H enc _ => lifted os started H enc)
/-- ████ THE TIED CARD ████ -/
theorem eventBack_card : Rows.EventBackCardSaid :=
  Claim7.holds_tied_plain_at .later [] [.data, .data, .data, .data, .sentinel, .sentinel, .sentinel, .sentinel, .sentinel, .sentinel, .sentinel, .sentinel, .sentinel, .pinned] true (true, "958ce5fb5561b88069323e89798a52ed8d941b7f2de19eb3112d05b893b9c7ed") true
    eventBack_holds (fun _ h => by cases h) (by kernel_rfl) (fun _ h => by cases h) eventBack_row_tie rfl ⟨rfl, rfl⟩ (by kernel_rfl) rfl
    (fun f fn hf hfn => by
      obtain rfl : f = 3 := Option.some.inj ((show Tryz.prog.funcNamed "lammastide/lammastidelaw1.EventBack" = some 3 by kernel_rfl).symm.trans hf) |>.symm
      obtain rfl : fn = Tryz.f3 := (Option.some.inj (Tryz.func3.symm.trans hfn)).symm
      exact ⟨by kernel_rfl, fun j t ht => by
        rw [Tryz.params3] at ht
        have hm : t ∈ [27, 27] := by simpa using Array.mem_of_getElem? ht
        have hall : ([27, 27].all fun u => !Tryz.prog.wantsStandIn u) = true := by kernel_rfl
        exact (show Tryz.prog.wantsStandIn t = false by simpa using List.all_eq_true.1 hall t hm)⟩)
    (by kernel_rfl)
#print axioms eventBack_card
end Go.Proofs.YtakainogpokhgaaGreatDoor
