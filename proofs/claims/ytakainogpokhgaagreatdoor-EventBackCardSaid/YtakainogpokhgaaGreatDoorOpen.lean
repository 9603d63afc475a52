/- An argument that is an event: its cells, and where its slices lie. -/
import Derived.Test.YtakainogpokhgaaGreatDoorLawB
import Derived.Deep.SlicePairs
import Derived.Lib.SmallJoins
import Derived.ChangeSlices
import Derived.ChangeArms
import Derived.WideShapes
namespace Go.Proofs.YtakainogpokhgaaGreatDoor
open Go.RowKit Go.ChangeShapes Go.WideShapes Go.Deep Lam

set_option maxRecDepth 100000
section
variable {H : Type} {enc : TypeId × Value → H} {W : World}
theorem rd_of_cells {a : Addr} {len sz : Nat} {xs : List Value} (hsz : 0 < sz) (hlen : xs.length = len * sz) (hc : ∀ j u, xs[j]? = some u → W.cell? (a.add j) = some u) : Rd W sz (some a) len xs := by
  refine ⟨hlen, fun hn => ?_⟩
  have h0 : 0 < xs.length := by rw [hlen]; exact Nat.mul_pos hn hsz
  have hc0 := hc 0 _ (List.getElem?_eq_getElem h0)
  obtain ⟨b, off, spot⟩ := a
  have hspot : spot = none := by simpa [Addr.add] using World.cell?_spot hc0
  subst hspot
  exact ⟨b, off, rfl, fun j u hj => by have := hc j u hj; rw [Addr.add_lit] at this; exact this⟩
theorem open_intsRd {fuel : Nat} {cs : List Value} {x : DataW H × List MemPlace} (h : DataW.trod enc Tryz.prog W 0 (fun _ => true) true fuel 22 cs = some x) :
    ∃ (a : Option Addr) (n c : Nat) (l : List Int), cs = [.slice a n c] ∧ (a = none → c = 0) ∧ Rd W 1 a n (l.map (Value.int .i64)) := by
  have ce : Tryz.prog.cellsOf 3 = 1 := by kernel_rfl
  rcases open_ints Tryz.underlying22 Tryz.underlying3 ce h with ⟨rfl, _⟩ | ⟨a, len, cap, zs, rfl, _, hl, _, hz, _, hcell, _⟩
  · exact ⟨none, 0, 0, [], rfl, fun _ => rfl, Rd.nil _ _ _⟩
  · simp only [if_true] at hz
    refine ⟨some a, len, cap, zs.take len, rfl, (fun h => by cases h), rd_of_cells (by decide) (by simp; omega) fun j u hj => ?_⟩
    rw [List.getElem?_map] at hj
    cases hq : (zs.take len)[j]? with
    | none => rw [hq] at hj; cases hj
    | some z =>
      rw [hq] at hj; injection hj with hj; subst hj
      have hlt := (List.getElem?_eq_some_iff.1 hq).1
      simp only [List.length_take] at hlt
      rw [hcell j (by omega)]
      have : zs[j]? = some z := by rw [List.getElem?_take] at hq; split at hq; exact hq; cases hq
      simp [List.getD, this]
def valInt : Value → Int
  | .int _ z => z
  | _ => 0
theorem open_movesRd {fuel : Nat} {cs : List Value} {x : DataW H × List MemPlace} (h : DataW.trod enc Tryz.prog W 0 (fun _ => true) true fuel 25 cs = some x) :
    ∃ (a : Option Addr) (n c : Nat) (l : List (Int × Int)), cs = [.slice a n c] ∧ (a = none → c = 0) ∧ Rd W 2 a n (mvC l) := by
  have ce : Tryz.prog.cellsOf 68 = 2 := by kernel_rfl
  have ci : Tryz.prog.cellsOf 3 = 1 := by kernel_rfl
  rcases open_slice_pairs Tryz.underlying25 Tryz.underlying68 ce rfl rfl ci ci h with ⟨rfl, _⟩ | ⟨a, len, cap, m, n, V0, V1, D0, D1, P0, P1, rfl, _, hl, _, hm, _, hcell⟩
  · exact ⟨none, 0, 0, [], rfl, fun _ => rfl, Rd.nil _ _ _⟩
  · simp only [if_true] at hm
    have key : ∀ i, i < len → W.cell? (a.add (i * 2)) = some (.int .i64 (valInt (V0 i))) ∧ W.cell? (a.add (i * 2 + 1)) = some (.int .i64 (valInt (V1 i))) := fun i hi => by
      obtain ⟨h0, h1, t0, t1⟩ := hcell i (by omega)
      obtain ⟨z0, e0, _⟩ := DataW.trod_int Tryz.underlying3 t0
      obtain ⟨z1, e1, _⟩ := DataW.trod_int Tryz.underlying3 t1
      injection e0 with e0; injection e1 with e1
      rw [h0, h1, e0, e1]; exact ⟨rfl, rfl⟩
    refine ⟨some a, len, cap, (List.range len).map fun i => (valInt (V0 i), valInt (V1 i)), rfl, (fun h => by cases h), rd_of_cells (by decide) (by rw [mvC_len]; simp) fun j u hj => ?_⟩
    have hjl := (List.getElem?_eq_some_iff.1 hj).1
    rw [mvC_len, List.length_map, List.length_range] at hjl
    obtain ⟨k, hk⟩ : ∃ k, j = 2 * k ∨ j = 2 * k + 1 := ⟨j / 2, by omega⟩
    have hkl : k < len := by omega
    obtain ⟨m1, m2⟩ := mvC_at ((List.range len).map fun i => (valInt (V0 i), valInt (V1 i))) k (by simpa using hkl)
    obtain ⟨k0, k1⟩ := key k hkl
    rcases hk with rfl | rfl
    · rw [m1] at hj; injection hj with hj; subst hj
      rw [show 2 * k = k * 2 by omega, k0]; simp
    · rw [m2] at hj; injection hj with hj; subst hj
      rw [show 2 * k + 1 = k * 2 + 1 by omega, k1]; simp
theorem open_rule {fuel : Nat} {cs : List Value} {x : DataW H × List MemPlace} (h : DataW.trod enc Tryz.prog W 0 (fun _ => true) true fuel 24 cs = some x) :
    ∃ (r : Rule) (a : Option Addr) (n c : Nat), cs = [.string (B r.freq), .int .i64 r.every, .slice a n c, .int .i64 r.count, .int .i64 r.till] ∧ (a = none → c = 0) ∧ Rd W 1 a n (r.days.map (Value.int .i64)) := by
  have cs9 : Tryz.prog.cellsOf 9 = 1 := by kernel_rfl
  have ci : Tryz.prog.cellsOf 3 = 1 := by kernel_rfl
  have cl : Tryz.prog.cellsOf 22 = 1 := by kernel_rfl
  have cr : Tryz.prog.cellsOf 24 = 5 := by kernel_rfl
  obtain ⟨xs, n, _, _, hlen, hxl, hf⟩ := DataW.trod_struct Tryz.underlying24 h
  rw [cr] at hlen
  match cs, hlen, xs, hxl with
  | [c0, c1, c2, c3, c4], _, [y0, y1, y2, y3, y4], _ =>
    have h0 : DataW.trod enc Tryz.prog W 0 (fun _ => true) true n 9 [c0] = some y0 := by simpa [cs9] using hf 0 _ rfl
    have h1 : DataW.trod enc Tryz.prog W 0 (fun _ => true) true n 3 [c1] = some y1 := by simpa [ci] using hf 1 _ rfl
    have h2 : DataW.trod enc Tryz.prog W 0 (fun _ => true) true n 22 [c2] = some y2 := by simpa [cl] using hf 2 _ rfl
    have h3 : DataW.trod enc Tryz.prog W 0 (fun _ => true) true n 3 [c3] = some y3 := by simpa [ci] using hf 3 _ rfl
    have h4 : DataW.trod enc Tryz.prog W 0 (fun _ => true) true n 3 [c4] = some y4 := by simpa [ci] using hf 4 _ rfl
    obtain ⟨s, e0, _⟩ := DataW.trod_string Tryz.underlying9 h0
    obtain ⟨z1, e1, _⟩ := DataW.trod_int Tryz.underlying3 h1
    obtain ⟨a, m, c, l, e2, hnil, hr⟩ := open_intsRd h2
    obtain ⟨z3, e3, _⟩ := DataW.trod_int Tryz.underlying3 h3
    obtain ⟨z4, e4, _⟩ := DataW.trod_int Tryz.underlying3 h4
    injection e0 with e0; injection e1 with e1; injection e2 with e2; injection e3 with e3; injection e4 with e4
    exact ⟨⟨s.data.toList, z1, l, z3, z4⟩, a, m, c, by rw [e0, e1, e2, e3, e4], hnil, hr⟩
theorem open_event {b0 : Nat} {v : Value} {d : DataW H} {p : List MemPlace} (hv : Value.okWide Tryz.prog W .any b0 27 v) (h : DataW.Trod enc Tryz.prog W 0 (fun _ => true) true 27 v d p) :
    ∃ (e : Ev) (g : Hd), v = .agg (evC e g) ∧ EvIs W e g ∧ HdNil g := by
  have cs9 : Tryz.prog.cellsOf 9 = 1 := by kernel_rfl
  have ci : Tryz.prog.cellsOf 3 = 1 := by kernel_rfl
  have cl : Tryz.prog.cellsOf 22 = 1 := by kernel_rfl
  have cm : Tryz.prog.cellsOf 25 = 1 := by kernel_rfl
  have cr : Tryz.prog.cellsOf 24 = 5 := by kernel_rfl
  have cev : Tryz.prog.cellsOf 27 = 11 := by kernel_rfl
  obtain ⟨cs, rfl, hsz⟩ := okWide_struct Tryz.underlying27 hv
  rw [cev] at hsz
  obtain ⟨fuel, hh⟩ := h
  obtain ⟨xs, n, _, _, _, hxl, hf⟩ := DataW.trod_struct Tryz.underlying27 hh
  obtain ⟨l⟩ := cs
  match l, hsz, xs, hxl with
  | [c0, c1, c2, c3, c4, c5, c6, c7, c8, c9, c10], _, [y0, y1, y2, y3, y4, y5, y6], _ =>
    have h0 : DataW.trod enc Tryz.prog W 0 (fun _ => true) true n 9 [c0] = some y0 := by simpa [Value.cells, cs9] using hf 0 _ rfl
    have h1 : DataW.trod enc Tryz.prog W 0 (fun _ => true) true n 9 [c1] = some y1 := by simpa [Value.cells, cs9] using hf 1 _ rfl
    have h2 : DataW.trod enc Tryz.prog W 0 (fun _ => true) true n 3 [c2] = some y2 := by simpa [Value.cells, ci] using hf 2 _ rfl
    have h3 : DataW.trod enc Tryz.prog W 0 (fun _ => true) true n 3 [c3] = some y3 := by simpa [Value.cells, ci] using hf 3 _ rfl
    have h4 : DataW.trod enc Tryz.prog W 0 (fun _ => true) true n 24 [c4, c5, c6, c7, c8] = some y4 := by simpa [Value.cells, cr] using hf 4 _ rfl
    have h5 : DataW.trod enc Tryz.prog W 0 (fun _ => true) true n 22 [c9] = some y5 := by simpa [Value.cells, cl] using hf 5 _ rfl
    have h6 : DataW.trod enc Tryz.prog W 0 (fun _ => true) true n 25 [c10] = some y6 := by simpa [Value.cells, cm] using hf 6 _ rfl
    obtain ⟨s0, e0, _⟩ := DataW.trod_string Tryz.underlying9 h0
    obtain ⟨s1, e1, _⟩ := DataW.trod_string Tryz.underlying9 h1
    obtain ⟨z2, e2, _⟩ := DataW.trod_int Tryz.underlying3 h2
    obtain ⟨z3, e3, _⟩ := DataW.trod_int Tryz.underlying3 h3
    obtain ⟨r, da, dn, dc, e4, nd, rd⟩ := open_rule h4
    obtain ⟨sa, sn, sc, sl, e5, ns, rs⟩ := open_intsRd h5
    obtain ⟨ma, mn, mc, ml, e6, nm, rm⟩ := open_movesRd h6
    injection e0 with e0; injection e1 with e1; injection e2 with e2; injection e3 with e3; injection e5 with e5; injection e6 with e6
    simp only [List.cons.injEq, and_true] at e4
    obtain ⟨f4, f5, f6, f7, f8⟩ := e4
    exact ⟨⟨s0.data.toList, s1.data.toList, z2, z3, r, sl, ml⟩, ⟨da, dn, dc, sa, sn, sc, ma, mn, mc⟩, by rw [e0, e1, e2, e3, f4, f5, f6, f7, f8, e5, e6]; rfl, ⟨rd, rs, rm⟩, ⟨nd, ns, nm⟩⟩
end
end Go.Proofs.YtakainogpokhgaaGreatDoor
