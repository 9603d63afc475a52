/- Walks of package event: lists of an event. -/
import Derived.Test.YtakainogpokhgaaGreatDoorEvN
namespace Go.Proofs.YtakainogpokhgaaGreatDoor
open Go.RowKit Lam

/-- where an event's slices lie -/
structure Hd where
  da : Option Addr
  dn : Nat
  dc : Nat
  sa : Option Addr
  sn : Nat
  sc : Nat
  ma : Option Addr
  mn : Nat
  mc : Nat
/-- an event's cells -/
def evC (e : Ev) (h : Hd) : Array Value :=
  #[.string (B e.id), .string (B e.title), .int .i64 e.start, .int .i64 e.long, .string (B e.rule.freq), .int .i64 e.rule.every, .slice h.da h.dn h.dc, .int .i64 e.rule.count, .int .i64 e.rule.till,
    .slice h.sa h.sn h.sc, .slice h.ma h.mn h.mc]
def mvC (l : List (Int × Int)) : List Value := l.flatMap fun m => [.int .i64 m.1, .int .i64 m.2]
/-- the slices of an event lie where its cells say -/
structure EvIs (w : World) (e : Ev) (h : Hd) : Prop where
  days : Rd w 1 h.da h.dn (e.rule.days.map (Value.int .i64))
  skips : Rd w 1 h.sa h.sn (e.skips.map (Value.int .i64))
  moves : Rd w 2 h.ma h.mn (mvC e.moves)
theorem EvIs.up {w w' : World} {e : Ev} {h : Hd} (k : EvIs w e h) (hb : Below w.heap.size w w') : EvIs w' e h := ⟨k.days.up hb, k.skips.up hb, k.moves.up hb⟩
theorem mvC_len (l : List (Int × Int)) : (mvC l).length = l.length * 2 := by
  induction l with
  | nil => rfl
  | cons x r ih => simp [mvC] at ih ⊢; omega
theorem mvC_at : ∀ (l : List (Int × Int)) (k : Nat) (hk : k < l.length), (mvC l)[2 * k]? = some (.int .i64 l[k].1) ∧ (mvC l)[2 * k + 1]? = some (.int .i64 l[k].2)
  | [], k, h => by simp at h
  | x :: r, 0, _ => by simp [mvC]
  | x :: r, k + 1, h => by
    have ih := mvC_at r k (by simpa using h)
    have e : mvC (x :: r) = .int .i64 x.1 :: .int .i64 x.2 :: mvC r := by simp [mvC]
    rw [e, show 2 * (k + 1) = 2 * k + 2 by omega, show 2 * k + 2 + 1 = 2 * k + 1 + 2 by omega]
    simpa using ih
theorem Rd.len2 {w : World} {a : Option Addr} {n : Nat} {l : List (Int × Int)} (h : Rd w 2 a n (mvC l)) : l.length = n := by have := h.1; rw [mvC_len] at this; omega
theorem Rd.at2 {w : World} {a : Option Addr} {n : Nat} {l : List (Int × Int)} (h : Rd w 2 a n (mvC l)) (hn : 0 < n) :
    ∃ b off, a = some ⟨b, off, none⟩ ∧ ∀ (j : Nat) (hj : j < l.length), w.cell? ⟨b, off + j * 2, none⟩ = some (.int .i64 l[j].1) ∧ w.cell? ⟨b, off + j * 2 + 1, none⟩ = some (.int .i64 l[j].2) := by
  obtain ⟨b, off, e, hc⟩ := h.2 hn
  refine ⟨b, off, e, fun j hj => ?_⟩
  obtain ⟨h1, h2⟩ := mvC_at l j hj
  have a1 := hc _ _ h1
  have a2 := hc _ _ h2
  rw [show off + j * 2 = off + 2 * j by omega]
  exact ⟨a1, by rw [show off + 2 * j + 1 = off + (2 * j + 1) by omega]; exact a2⟩
set_option maxRecDepth 100000 in set_option maxHeartbeats 1000000 in
theorem froms_any (e : Ev) (h : Hd) (w : World) (hm : h.mn ≤ 10000000) (hr : EvIs w e h) :
    Calls Tryz.prog 59 #[.agg (evC e h)] w fun en w' => ∃ v, en = .returned v ∧ w'.ownsRow w.heap.size 3 1 v h.mn ((froms e.moves).map (Value.int .i64)) ∧ Below w.heap.size w w' := by
  have hd := hr.moves
  have HL := Lib.hid hd.len2
  obtain ⟨id, ti, st, lo, ⟨fr, ev, ds, co, tl⟩, sk, mo⟩ := e
  obtain ⟨da, dn, dc, sa, n, sc, ma, mn, mc⟩ := h
  simp only [evC] at *
  obtain ⟨i0, hi, hz0, hz1, hz2⟩ := info_parts int_info
  have hd1 := hd.up (show Below w.heap.size w (w.alloc (.cells #[.string (B id), .string (B ti), .int .i64 st, .int .i64 lo, .string (B fr), .int .i64 ev, .slice da dn dc, .int .i64 co, .int .i64 tl, .slice sa n sc, .slice ma mn mc] 27)) from (Below.refl _ _).alloc (Nat.le_refl _) _)
  have HB : Hid (Below w.heap.size w (w.alloc (.cells #[.string (B id), .string (B ti), .int .i64 st, .int .i64 lo, .string (B fr), .int .i64 ev, .slice da dn dc, .int .i64 co, .int .i64 tl, .slice sa n sc, .slice ma mn mc] 27))) := Lib.hid ((Below.refl _ _).alloc (Nat.le_refl _) _)
  clear hr hd
  go_enter Tryz.func59, Tryz.ntmps59
  go_wp2_with fail
  generalize World.alloc w _ = w1 at *
  go_loopw [3, 9] (fun v i wr => ∃ k : Nat, k ≤ mn ∧ i = .int .i64 k ∧ wr.ownsRow w1.heap.size 3 1 v k ((mo.take k).map fun m => .int .i64 m.1) ∧ Below w1.heap.size w1 wr) (fun _ i _ => mn - (intOf i).toNat)
  case atStart => exact ⟨0, Nat.zero_le _, rfl, World.ownsRow_nil _ _ _ _, Below.refl _ _⟩
  case round =>
    obtain ⟨k, hk, rfl, hown, hbr⟩ := hrel
    by_cases hlt : k < mn
    · obtain ⟨bb, off, rfl, hc⟩ := hd1.at2 (by omega)
      have hkl : k < mo.length := by rw [HL.out]; exact hlt
      obtain ⟨hc1, hc2⟩ := hc k hkl
      have hck1 := Below.cells hbr hc1
      have hck2 := Below.cells hbr hc2
      have T2 : Hid ((mo.take (k + 1)).map (fun m => Value.int .i64 m.1) = (mo.take k).map (fun m => Value.int .i64 m.1) ++ [Value.int .i64 mo[k].1]) :=
        Lib.hid (by rw [List.take_succ_eq_append_getElem hkl, List.map_append]; rfl)
      generalize mo[k] = m at *
      clear hc hc1 hc2
      have hsz := hbr.size
      have hown5 := hown.alloc (.cells #[.int .i64 m.1, .int .i64 m.2] 68)
      have hb5 : Below w1.heap.size w1 (wr.alloc (.cells #[.int .i64 m.1, .int .i64 m.2] 68)) := hbr.alloc hsz _
      have nc : (wr.alloc (.cells #[.int .i64 m.1, .int .i64 m.2] 68)).cell? ⟨wr.heap.size, 0, none⟩ = some (.int .i64 m.1) := new_cell _ _ _ 0
      clear hown hbr
      go_upto_region 5 with fail
      generalize wr.alloc (.cells #[.int .i64 m.1, .int .i64 m.2] 68) = w5 at *
      go_wp2_with (at_builtin; (refine wpList_append1 w5 rfl (.tmp 13) (.tmp 16) 22 rfl w1.heap.size 3 i0 (.int .i64 0) 8 Tryz.underlying22 hi hz0 hz1 hz2 rfl _ k _ hown5 rfl (.int .i64 m.1) rfl rfl ?h6 ?h7 ?h8 ?_); (case h6 => simp only [maxLen]; omega); (case h7 => omega); (case h8 => exact hb5.size); intro v6 w6 hown6 hb6 _)
      go_roundw
      case rel => exact ⟨k + 1, by omega, by go_num, by rw [T2.out]; exact hown6, hb5.trans hb6⟩
      case measure => simp [intOf]; omega
    · obtain rfl : k = mn := by omega
      go_wp2_with fail
      go_ret
      refine ⟨_, rfl, own_mono ?_ HB.out.size, HB.out.trans (hbr.mono HB.out.size)⟩
      rw [List.take_of_length_le (by rw [HL.out]; exact Nat.le_refl _)] at hown
      unfold froms; rw [List.map_map]; exact hown

set_option maxRecDepth 100000 in
theorem rising_any (l : List Int) (a : Option Addr) (k c : Nat) (w : World) (hk : k ≤ maxLen) (hd : Rd w 1 a k (l.map (Value.int .i64))) :
    Calls Tryz.prog 61 #[.slice a k c] w fun e w' => e = .returned (.bool (rising l)) ∧ Below w.heap.size w w' := by
  unfold maxLen at hk
  have HL := Lib.hid hd.len
  go_enter Tryz.func61, Tryz.ntmps61
  go_wp2_with fail
  go_loopw [3] (fun i wr => ∃ j m : Nat, 1 ≤ j ∧ (j ≤ k ∨ j = 1) ∧ i = .int .i64 j ∧ wr = w.drewN m ∧ RisingTo l j) (fun i _ => k - (intOf i).toNat)
  case atStart => exact ⟨1, 0, by omega, .inr rfl, rfl, rfl, fun i a b hi => by omega⟩
  case round =>
    obtain ⟨j, m, j1, j2, rfl, rfl, hr⟩ := hrel
    have HR := Lib.hid hr
    clear hr
    by_cases hlt : j < k
    · obtain ⟨bb, off, rfl, hc⟩ := hd.at (by omega)
      obtain ⟨i, rfl⟩ : ∃ i, j = i + 1 := ⟨j - 1, by omega⟩
      have l1 : i + 1 < l.length := by rw [HL.out]; exact hlt
      have l0 : i < l.length := by omega
      have hc1 := hc (i + 1) l1
      have hc0 := hc i l0
      have g1 : l[i + 1]? = some l[i + 1] := List.getElem?_eq_getElem l1
      have g0 : l[i]? = some l[i] := List.getElem?_eq_getElem l0
      have G1 := Lib.hid g1
      have G0 := Lib.hid g0
      clear hc g1 g0
      generalize l[i + 1] = x at *
      generalize l[i] = y at *
      clear l1 l0
      by_cases hxy : x ≤ y
      · have R := Lib.hid (rising_no G0.out G1.out hxy)
        have i1 : (i : Int) + 1 < (k : Int) := by omega
        have i2 : (i : Int) < (k : Int) := by omega
        go_wp2_with fail
        go_quiet (fail)
        go_wp2
        all_goals go_ret
        all_goals exact ⟨by rw [R.out]; rfl, below_drewN (Below.draws _ _) _⟩
      · have i1 : (i : Int) + 1 < (k : Int) := by omega
        have i2 : (i : Int) < (k : Int) := by omega
        go_wp2_with fail
        go_quiet (fail)
        go_wp2
        go_roundw
        case rel =>
          refine ⟨i + 1 + 1, _, by omega, .inl (by omega), by go_num, rfl, ?_⟩
          intro u a b hu ha hb'
          by_cases hu2 : u + 1 < i + 1
          · exact HR.out u a b hu2 ha hb'
          · obtain rfl : u = i := by omega
            rw [G0.out] at ha; rw [G1.out] at hb'
            injection ha with ha; injection hb' with hb'
            omega
        case measure => simp [intOf]; omega
    · have hR : Hid (rising l = true) := Lib.hid (rising_all (n := j) (by rw [HL.out]; omega) HR.out)
      go_wp2
      go_ret
      exact ⟨by rw [hR.out]; rfl, Below.draws _ _⟩
end Go.Proofs.YtakainogpokhgaaGreatDoor
