/- Walks of package event: Read. (Printed by wip/tools/evr.py.) -/
import Derived.Test.YtakainogpokhgaaGreatDoorEvZ
namespace Go.Proofs.YtakainogpokhgaaGreatDoor
open Go.RowKit Lam

/-- the pieces of an event's text -/
structure EvPieces (L : List Str) (N N1 : Nat) (w w1 : World) (S : Nat → Bool) (A : Nat → Addr) : Prop where
  lo : N < N1
  below : Below N w w1
  env : Env S w1 A
  box : w1.heap[N]? = some (.cells zEvC 27 (0, 0))
  rd : Rd w1 1 (some ⟨N1, 0, none⟩) L.length (L.map fun p => .string (B p))
theorem evPieces_any (s : ByteArray) (hs : s.size ≤ 1000000) (L : List Str) (hL : cuts 124 s.data.toList = L) (w : World) {S : Nat → Bool} {A : Nat → Addr} (E : Env S w A) :
    Calls Tryz.prog 31 #[.string s, .string ⟨#[124]⟩] (w.alloc (.cells zEvC 27)) fun e w' =>
      ∃ N1, e = .returned (.slice (some ⟨N1, 0, none⟩) L.length L.length) ∧ EvPieces L w.heap.size N1 w w' S A := by
  have hB0 : Below w.heap.size w (w.alloc (.cells zEvC 27)) := (Below.refl _ _).alloc (Nat.le_refl _) _
  have hX0 : (w.alloc (.cells zEvC 27)).heap[w.heap.size]? = some (.cells zEvC 27 (0, 0)) := heap_alloc_new w _
  have hz : (w.alloc (.cells zEvC 27)).heap.size = w.heap.size + 1 := by simp
  have E0 := E.up hB0
  generalize w.alloc (.cells zEvC 27) = w0 at *
  refine (split_any s 124 (by omega) w0 E0.shaped).mono ?_
  rintro e w1 ⟨rfl, hr, hb1⟩
  rw [hL] at hr ⊢
  exact ⟨_, rfl, by omega, Below.next hB0 hb1, E0.up hb1, (hb1.block w.heap.size (Array.getElem?_eq_some_iff.1 hX0).1).trans hX0, hr⟩
theorem drew_heap {W : World} {N : Nat} {o : Option Obj} (h : W.heap[N]? = o) : W.drew.heap[N]? = o := h
/-- an event whose slices are nil -/
abbrev zHd : Hd := ⟨none, 0, 0, none, 0, 0, none, 0, 0⟩
set_option maxRecDepth 100000 in set_option maxHeartbeats 1000000 in
theorem evRead_short (s : ByteArray) (hs : s.size ≤ 1000000) (hlt : (cuts 124 s.data.toList).length ≠ 7) (w : World) {S : Nat → Bool} {A : Nat → Addr} (E : Env S w A) (h1 : S 1 = true) :
    Calls Tryz.prog 9 #[.string s] w (EvPost A (.err 1) w) := by
  generalize hL : cuts 124 s.data.toList = L at *
  have P := evPieces_any s hs L hL w E
  clear hL E
  go_enter Tryz.func9, Tryz.ntmps9
  go_wp2_with fail
  refine P.mono ?_
  rintro e w1 ⟨N1, rfl, hlo, hb1, E1, hX1, hr⟩
  have ce : w1.cell? ⟨1, 0, none⟩ = some (Er (A 1)) := E1.sent 1 h1
  have hlt3 : ((L.length : Int) != 7) = true := by rw [bne_iff_ne]; omega
  have hN : (1 : Nat) ≠ w.heap.size := by have := cell_lt ce; intro h; rw [← h] at hX1; have h2 := (blk_cells hX1 0).symm.trans ce; simp at h2
  have HX := Lib.hid hX1
  generalize L.length = n at *
  clear E1 hr hX1 hlt P
  go_wp2_with fail
  refine (fields_any w1).mono ?_
  rintro e w2 ⟨rfl, rfl⟩
  have hb2 : Below w1.heap.size w1 (w1.alloc (.cells fieldRow 9)) := (Below.refl _ _).alloc (Nat.le_refl _) _
  have ce2 := Below.cells hb2 ce
  have hX2 := (hb2.block _ (Array.getElem?_eq_some_iff.1 HX.out).1).trans HX.out
  have HB := Lib.hid (Below.next hb1 hb2)
  generalize w1.alloc (.cells fieldRow 9) = w2 at *
  have x0 := (blk_cells hX2 0).trans (show _ = some (Value.string ⟨#[]⟩) from rfl)
  have x1 := (blk_cells hX2 1).trans (show _ = some (Value.string ⟨#[]⟩) from rfl)
  have x2 := (blk_cells hX2 2).trans (show _ = some (Value.int .i64 0) from rfl)
  have x3 := (blk_cells hX2 3).trans (show _ = some (Value.int .i64 0) from rfl)
  have x4 := (blk_cells hX2 4).trans (show _ = some (Value.string ⟨#[]⟩) from rfl)
  have x5 := (blk_cells hX2 5).trans (show _ = some (Value.int .i64 0) from rfl)
  have x6 := (blk_cells hX2 6).trans (show _ = some (Value.slice none 0 0) from rfl)
  have x7 := (blk_cells hX2 7).trans (show _ = some (Value.int .i64 0) from rfl)
  have x8 := (blk_cells hX2 8).trans (show _ = some (Value.int .i64 0) from rfl)
  have x9 := (blk_cells hX2 9).trans (show _ = some (Value.slice none 0 0) from rfl)
  have x10 := (blk_cells hX2 10).trans (show _ = some (Value.slice none 0 0) from rfl)
  have z0 := blk_frozens hX2 0
  have z1 := blk_frozens hX2 1
  have z2 := blk_frozens hX2 2
  have z3 := blk_frozens hX2 3
  have z4 := blk_frozens hX2 4
  have z5 := blk_frozens hX2 5
  have z6 := blk_frozens hX2 6
  have z7 := blk_frozens hX2 7
  have z8 := blk_frozens hX2 8
  have z9 := blk_frozens hX2 9
  have z10 := blk_frozens hX2 10
  have HX2 := Lib.hid hX2
  clear hX2 hb2 hb1 ce
  go_wp2_with fail
  go_region_held3 (fun w' => w'.cell? ⟨1, 0, none⟩ = some (Er (A 1))) ((simp only [cell_drew', cell_set1 hN]; exact ce2)) (fail)
  go_wp2_with fail
  refine bodyPost_ret (evReadRet (N := w.heap.size) (u0 := .string ⟨#[]⟩) (u1 := .string ⟨#[]⟩) (u2 := .int .i64 0) (u3 := .int .i64 0) (u4 := .string ⟨#[]⟩) (u5 := .int .i64 0) (u6 := .slice none 0 0) (u7 := .int .i64 0) (u8 := .int .i64 0) (u9 := .slice none 0 0) (u10 := .slice none 0 0) ?hx rfl rfl) rfl ⟨?hb, by decide, rfl⟩
  case hx => exact drew_heap (ev_sets HX2.out _ _ _ _ _ _ _ _ _ _ _)
  case hb => exact Below.drew (ev_below HB.out (Nat.le_refl _) _ _ _ _ _ _ _ _ _ _ _)
/-- how far reading has come -/
structure ReadAt (id : Str) (l : List Str) (NE : Nat) (wL : World) (k : Nat) (wr : World) (y : Ev) (g : Hd) : Prop where
  bes : Besides NE wL wr
  at_ : EvAt wr NE y g
  is : EvIs wr y g
  ok : EvOk y g
  off : ∀ M, M < wL.heap.size → EvOff g M
  so : putAll (zeroEv id) 0 l = putAll y k (l.drop k)
/-- what is read behind the name -/
def readOf (id : Str) (l : List Str) : Got Ev := match putAll (zeroEv id) 0 l with | .ok x => checked x | .err c => .err c
theorem putAll_drop {y : Ev} {l : List Str} {k : Nat} (h : k < l.length) : putAll y k (l.drop k) = match putF y k l[k] with | .ok x => putAll x (k + 1) (l.drop (k + 1)) | .err c => .err c := by
  rw [List.drop_eq_getElem_cons h]; rfl
set_option maxRecDepth 100000 in set_option maxHeartbeats 1000000 in
theorem evRead_seven (s : ByteArray) (hs : s.size ≤ 1000000) (id : Str) (l : List Str) (hL : cuts 124 s.data.toList = id :: l) (hl6 : l.length = 6) (w : World) {S : Nat → Bool} {A : Nat → Addr} (E : Env S w A) (h1 : S 1 = true) (h2 : S 2 = true) (h3 : S 3 = true) (h4 : S 4 = true) (h6 : S 6 = true) (h7 : S 7 = true) (h8 : S 8 = true) :
    Calls Tryz.prog 9 #[.string s] w (EvPost A (readOf id l) w) := by
  have P := evPieces_any s hs _ hL w E
  have HLP : Hid (∀ p ∈ id :: l, p.length ≤ 1000000) := Lib.hid (fun p hp => by have := pieces_len (c := 124) (s := s.data.toList) (p := p) (by rw [hL]; exact hp); rw [len_data] at this; omega)
  have HL6 := Lib.hid hl6
  rw [show (id :: l).length = 7 by simp [hl6]] at P
  clear hL hl6
  go_enter Tryz.func9, Tryz.ntmps9
  go_wp2_with fail
  refine P.mono ?_
  rintro e w1 ⟨N1, rfl, hlo, hb1, E1, hX1, hr⟩
  rw [show (id :: l).length = 7 by simp [HL6.out]] at hr
  have HX := Lib.hid hX1
  have HR := Lib.hid hr
  have c0 : w1.cell? ⟨N1, 0, none⟩ = some (.string (B id)) := by
    obtain ⟨b, off, e, hc⟩ := hr.at (by omega)
    injection e with e; injection e with e1 e2; subst e1; subst e2
    exact hc 0 (by simp)
  clear hr hX1 P
  go_wp2_with fail
  refine (fields_any w1).mono ?_
  rintro e w2 ⟨rfl, rfl⟩
  have hb2 : Below w1.heap.size w1 (w1.alloc (.cells fieldRow 9)) := (Below.refl _ _).alloc (Nat.le_refl _) _
  have c0' := Below.cells hb2 c0
  have HX2 := Lib.hid ((hb2.block _ (Array.getElem?_eq_some_iff.1 HX.out).1).trans HX.out)
  have HR2 := Lib.hid (HR.out.up hb2)
  have HB2 := Lib.hid (Below.next hb1 hb2)
  clear hb2 c0 HR HX E1 hb1
  generalize w1.alloc (.cells fieldRow 9) = w2 at *
  have hn1 : N1 < w2.heap.size := cell_lt c0'
  have hE0 : Hid (EvAt (w2.alloc (.cells #[.string (B id), .string ⟨#[]⟩, .int .i64 0, .int .i64 0, .string ⟨#[]⟩, .int .i64 0, .slice none 0 0, .int .i64 0, .int .i64 0, .slice none 0 0, .slice none 0 0] 27)) w2.heap.size (zeroEv id) zHd) := Lib.hid (heap_alloc_new w2 _)
  have hB3 : Hid (Below w2.heap.size w2 (w2.alloc (.cells #[.string (B id), .string ⟨#[]⟩, .int .i64 0, .int .i64 0, .string ⟨#[]⟩, .int .i64 0, .slice none 0 0, .int .i64 0, .int .i64 0, .slice none 0 0, .slice none 0 0] 27))) := Lib.hid ((Below.refl _ _).alloc (Nat.le_refl _) _)
  go_upto_region 5 with fail
  generalize (w2.alloc (.cells #[.string (B id), .string ⟨#[]⟩, .int .i64 0, .int .i64 0, .string ⟨#[]⟩, .int .i64 0, .slice none 0 0, .int .i64 0, .int .i64 0, .slice none 0 0, .slice none 0 0] 27)) = w3 at *
  go_wp2_with fail
  refine (fields_any w3).mono ?_
  rintro e w4 ⟨rfl, rfl⟩
  have hb4 : Below w3.heap.size w3 (w3.alloc (.cells fieldRow 9)) := (Below.refl _ _).alloc (Nat.le_refl _) _
  have row : ∀ i, i < 6 → (w3.alloc (.cells fieldRow 9)).cell? ⟨w3.heap.size, i, none⟩ = some (.string (B (fieldName i))) := fun i hi => (new_cell _ _ _ i).trans (fieldRow_at i hi)
  have hN3 : w2.heap.size < w3.heap.size := (Array.getElem?_eq_some_iff.1 hE0.out).1
  have hb24 := hB3.out.trans (hb4.mono (by omega))
  have hR4 := HR2.out.up hb24
  have hE4 := (hb4.block w2.heap.size hN3).trans hE0.out
  have hX4 := (hb24.block w.heap.size (by omega)).trans HX2.out
  have hb04 := HB2.out.trans (hb24.mono (by omega))
  have hz4 : w3.heap.size < (w3.alloc (.cells fieldRow 9)).heap.size := by simp
  have hNw : w.heap.size < w2.heap.size := by omega
  have HR4 := Lib.hid hR4
  have HX4 := Lib.hid hX4
  have HB4 := Lib.hid hb04
  clear hR4 hX4 hb04 hb24 hb4 hB3 hE0 HB2 HR2 HX2 c0'
  generalize w2.heap.size = NE at *
  generalize w3.heap.size = fb at *
  generalize w3.alloc (.cells fieldRow 9) = w4 at *
  clear w2 w3
  have H0 : ReadAt id l NE w4 0 w4 (zeroEv id) zHd := ⟨Besides.of_below (Below.refl _ _), hE4, ⟨Rd.nil _ _ _, Rd.nil _ _ _, Rd.nil _ _ _⟩, ⟨by simp [zeroEv], by simp, by simp, by simp⟩, fun M _ => ⟨fun _ _ h => absurd h (by simp), fun _ _ h => absurd h (by simp), fun _ _ h => absurd h (by simp)⟩, rfl⟩
  have HH0 := Lib.hid H0
  have ROW := Lib.hid row
  clear H0 row hE4
  go_wp2_with fail
  go_loopw [26] (fun i wr => ∃ (k : Nat) (y : Ev) (g : Hd), k ≤ 6 ∧ i = .int .i64 k ∧ ReadAt id l NE w4 k wr y g) (fun i _ => 6 - (intOf i).toNat)
  case atStart => exact ⟨0, _, _, Nat.zero_le _, rfl, HH0.out⟩
  case round =>
    obtain ⟨k, y, g, hk, rfl, hra⟩ := hrel
    have HRA := Lib.hid hra
    have hbr : Below w.heap.size w wr := Besides.below HB4.out hra.bes (by omega) (by omega)
    have hzr := hra.bes.size
    have hxr := (hra.bes.block w.heap.size (by omega) (by omega)).trans HX4.out
    have HXR := Lib.hid hxr
    have HBR := Lib.hid hbr
    by_cases hlt : k < 6
    · have hkl : k < l.length := by rw [HL6.out]; exact hlt
      have fr : wr.cell? ⟨fb, k, none⟩ = some (.string (B (fieldName k))) := by
        have h := ROW.out k hlt
        have hb := hra.bes.block fb (by omega) (by omega)
        unfold World.cell? at h ⊢; simp only at h ⊢; rw [hb]; exact h
      have pr : wr.cell? ⟨N1, k + 1, none⟩ = some (.string (B l[k])) := by
        obtain ⟨b, off, e, hc⟩ := HR4.out.at (by omega)
        injection e with e; injection e with e1 e2; subst e1; subst e2
        have h := hc (k + 1) (by simp; omega)
        have hb := hra.bes.block N1 (by omega) (by omega)
        unfold World.cell? at h ⊢; simp only [Nat.zero_add] at h ⊢; rw [hb]; simpa using h
      have PU := put_any k hlt y g NE l[k] (HLP.out _ (List.mem_cons_of_mem _ (List.getElem_mem hkl))) wr (E.up hbr) h1 h2 h3 h4 h8 hra.ok hra.at_ hra.is (hra.off NE (by omega))
      have SO : Hid (putAll (zeroEv id) 0 l = match putF y k l[k] with | .ok x => putAll x (k + 1) (l.drop (k + 1)) | .err c => .err c) := Lib.hid (hra.so.trans (putAll_drop hkl))
      have HPU := Lib.hid PU
      have i1 : (k : Int) < 6 := by omega
      have i2 : k + 1 < 7 := by omega
      have i3 : (k : Int) + 1 < 7 := by omega
      generalize fieldName k = fn at *
      generalize hlk : l[k] = lk at *
      clear hra hbr hxr PU hlk
      go_wp2_with fail
      refine HPU.out.mono ?_
      cases hp : putF y k lk with
      | err c =>
        rintro en w5 ⟨hbs, hc, rfl⟩
        have T : Hid (readOf id l = .err c) := Lib.hid (by unfold readOf; rw [SO.out, hp])
        have hx5 := (hbs.block w.heap.size (by omega) (by omega)).trans HXR.out
        have x0 := (blk_cells hx5 0).trans (show _ = some (Value.string ⟨#[]⟩) from rfl)
        have x1 := (blk_cells hx5 1).trans (show _ = some (Value.string ⟨#[]⟩) from rfl)
        have x2 := (blk_cells hx5 2).trans (show _ = some (Value.int .i64 0) from rfl)
        have x3 := (blk_cells hx5 3).trans (show _ = some (Value.int .i64 0) from rfl)
        have x4 := (blk_cells hx5 4).trans (show _ = some (Value.string ⟨#[]⟩) from rfl)
        have x5 := (blk_cells hx5 5).trans (show _ = some (Value.int .i64 0) from rfl)
        have x6 := (blk_cells hx5 6).trans (show _ = some (Value.slice none 0 0) from rfl)
        have x7 := (blk_cells hx5 7).trans (show _ = some (Value.int .i64 0) from rfl)
        have x8 := (blk_cells hx5 8).trans (show _ = some (Value.int .i64 0) from rfl)
        have x9 := (blk_cells hx5 9).trans (show _ = some (Value.slice none 0 0) from rfl)
        have x10 := (blk_cells hx5 10).trans (show _ = some (Value.slice none 0 0) from rfl)
        have z0 := blk_frozens hx5 0
        have z1 := blk_frozens hx5 1
        have z2 := blk_frozens hx5 2
        have z3 := blk_frozens hx5 3
        have z4 := blk_frozens hx5 4
        have z5 := blk_frozens hx5 5
        have z6 := blk_frozens hx5 6
        have z7 := blk_frozens hx5 7
        have z8 := blk_frozens hx5 8
        have z9 := blk_frozens hx5 9
        have z10 := blk_frozens hx5 10
        have HX5 := Lib.hid hx5
        have HB5 := Lib.hid (Besides.below HBR.out hbs (by omega) (by omega))
        have HC := Lib.hid hc
        clear hx5 hbs hp hc
        go_wp2_with fail
        refine bodyPost_ret (evReadRet (N := w.heap.size) (ev_sets HX5.out _ _ _ _ _ _ _ _ _ _ _) rfl rfl) rfl ?_
        rw [T.out]
        exact ⟨ev_below HB5.out (Nat.le_refl _) _ _ _ _ _ _ _ _ _ _ _, HC.out, rfl⟩
      | ok y2 =>
        rintro en w5 ⟨hbs, rfl, g2, hx5, hE5, hO5, ok5⟩
        have NEXT : Hid (ReadAt id l NE w4 (k + 1) w5 y2 g2) := Lib.hid ⟨HRA.out.bes.trans hbs, hx5, hE5, ok5, fun M hM => hO5 M (by omega) (HRA.out.off M hM), by rw [SO.out, hp]⟩
        clear hbs hx5 hE5 hO5 hp
        go_wp2_with fail
        go_roundw
        case rel => exact ⟨k + 1, y2, g2, by omega, by go_num, NEXT.out⟩
        case measure => simp [intOf]; omega
    · obtain rfl : k = 6 := by omega
      have SO : Hid (putAll (zeroEv id) 0 l = .ok y) := Lib.hid (by rw [hra.so, List.drop_eq_nil_of_le (by rw [HL6.out]; exact Nat.le_refl _)]; rfl)
      have K := evCheck_any y g wr hra.ok hra.is (E.up hbr) h1 h2 h3 h4 h6 h7 h8
      have hx := hra.at_
      rw [show evC y g = #[.string (B y.id), .string (B y.title), .int .i64 y.start, .int .i64 y.long, .string (B y.rule.freq), .int .i64 y.rule.every, .slice g.da g.dn g.dc, .int .i64 y.rule.count, .int .i64 y.rule.till, .slice g.sa g.sn g.sc, .slice g.ma g.mn g.mc] from rfl] at K
      have x0 := (blk_cells hx 0).trans (show _ = some (Value.string (B y.id)) from rfl)
      have x1 := (blk_cells hx 1).trans (show _ = some (Value.string (B y.title)) from rfl)
      have x2 := (blk_cells hx 2).trans (show _ = some (Value.int .i64 y.start) from rfl)
      have x3 := (blk_cells hx 3).trans (show _ = some (Value.int .i64 y.long) from rfl)
      have x4 := (blk_cells hx 4).trans (show _ = some (Value.string (B y.rule.freq)) from rfl)
      have x5 := (blk_cells hx 5).trans (show _ = some (Value.int .i64 y.rule.every) from rfl)
      have x6 := (blk_cells hx 6).trans (show _ = some (Value.slice g.da g.dn g.dc) from rfl)
      have x7 := (blk_cells hx 7).trans (show _ = some (Value.int .i64 y.rule.count) from rfl)
      have x8 := (blk_cells hx 8).trans (show _ = some (Value.int .i64 y.rule.till) from rfl)
      have x9 := (blk_cells hx 9).trans (show _ = some (Value.slice g.sa g.sn g.sc) from rfl)
      have x10 := (blk_cells hx 10).trans (show _ = some (Value.slice g.ma g.mn g.mc) from rfl)
      have HXE := Lib.hid hx
      have HK := Lib.hid K
      have hNE2 : NE < wr.heap.size := (Array.getElem?_eq_some_iff.1 hx).1
      clear hra hbr hxr K hx
      go_wp2_with fail
      refine HK.out.mono ?_
      rintro en w5 ⟨rfl, hb5⟩
      have hx5 : EvAt w5 NE y g := (hb5.block NE hNE2).trans HXE.out
      have hz5 := (hb5.block w.heap.size (by omega)).trans HXR.out
      replace x0 := (blk_cells hx5 0).trans (show _ = some (Value.string (B y.id)) from rfl)
      replace x1 := (blk_cells hx5 1).trans (show _ = some (Value.string (B y.title)) from rfl)
      replace x2 := (blk_cells hx5 2).trans (show _ = some (Value.int .i64 y.start) from rfl)
      replace x3 := (blk_cells hx5 3).trans (show _ = some (Value.int .i64 y.long) from rfl)
      replace x4 := (blk_cells hx5 4).trans (show _ = some (Value.string (B y.rule.freq)) from rfl)
      replace x5 := (blk_cells hx5 5).trans (show _ = some (Value.int .i64 y.rule.every) from rfl)
      replace x6 := (blk_cells hx5 6).trans (show _ = some (Value.slice g.da g.dn g.dc) from rfl)
      replace x7 := (blk_cells hx5 7).trans (show _ = some (Value.int .i64 y.rule.count) from rfl)
      replace x8 := (blk_cells hx5 8).trans (show _ = some (Value.int .i64 y.rule.till) from rfl)
      replace x9 := (blk_cells hx5 9).trans (show _ = some (Value.slice g.sa g.sn g.sc) from rfl)
      replace x10 := (blk_cells hx5 10).trans (show _ = some (Value.slice g.ma g.mn g.mc) from rfl)
      have v0 := (blk_cells hz5 0).trans (show _ = some (Value.string ⟨#[]⟩) from rfl)
      have v1 := (blk_cells hz5 1).trans (show _ = some (Value.string ⟨#[]⟩) from rfl)
      have v2 := (blk_cells hz5 2).trans (show _ = some (Value.int .i64 0) from rfl)
      have v3 := (blk_cells hz5 3).trans (show _ = some (Value.int .i64 0) from rfl)
      have v4 := (blk_cells hz5 4).trans (show _ = some (Value.string ⟨#[]⟩) from rfl)
      have v5 := (blk_cells hz5 5).trans (show _ = some (Value.int .i64 0) from rfl)
      have v6 := (blk_cells hz5 6).trans (show _ = some (Value.slice none 0 0) from rfl)
      have v7 := (blk_cells hz5 7).trans (show _ = some (Value.int .i64 0) from rfl)
      have v8 := (blk_cells hz5 8).trans (show _ = some (Value.int .i64 0) from rfl)
      have v9 := (blk_cells hz5 9).trans (show _ = some (Value.slice none 0 0) from rfl)
      have v10 := (blk_cells hz5 10).trans (show _ = some (Value.slice none 0 0) from rfl)
      have z0 := blk_frozens hz5 0
      have z1 := blk_frozens hz5 1
      have z2 := blk_frozens hz5 2
      have z3 := blk_frozens hz5 3
      have z4 := blk_frozens hz5 4
      have z5 := blk_frozens hz5 5
      have z6 := blk_frozens hz5 6
      have z7 := blk_frozens hz5 7
      have z8 := blk_frozens hz5 8
      have z9 := blk_frozens hz5 9
      have z10 := blk_frozens hz5 10
      have HZ5 := Lib.hid hz5
      have HB5 := Lib.hid (HBR.out.trans (hb5.mono (by omega)))
      have HE5 := Lib.hid (HRA.out.is.up hb5)
      clear hx5 hz5 hb5
      by_cases hc : evErr y = 0
      · have T : Hid (readOf id l = .ok y) := Lib.hid (by unfold readOf; rw [SO.out]; simp [checked, hc])
        rw [hc, errV_zero]
        clear hc
        go_wp2_with fail
        refine bodyPost_ret (evReadRet (N := w.heap.size) (ev_sets HZ5.out _ _ _ _ _ _ _ _ _ _ _) rfl rfl) rfl ?_
        rw [T.out]
        have offN : EvOff g w.heap.size := HRA.out.off _ (by omega)
        exact ⟨ev_below HB5.out (Nat.le_refl _) _ _ _ _ _ _ _ _ _ _ _, g, rfl, HE5.out.besides (ev_besides (Besides.of_below (Below.refl _ _)) _ _ _ _ _ _ _ _ _ _ _) offN, HRA.out.ok, fun M hM => HRA.out.off M (by omega)⟩
      · have T : Hid (readOf id l = .err (evErr y)) := Lib.hid (by unfold readOf; rw [SO.out]; simp [checked, hc])
        have HC := Lib.hid hc
        rw [errV_pos hc]
        clear hc
        go_wp2_with fail
        refine bodyPost_ret (evReadRet (N := w.heap.size) (ev_sets HZ5.out _ _ _ _ _ _ _ _ _ _ _) rfl rfl) rfl ?_
        rw [T.out]
        exact ⟨ev_below HB5.out (Nat.le_refl _) _ _ _ _ _ _ _ _ _ _ _, HC.out, rfl⟩
/-- ████ event.Read READS AN EVENT ████ -/
theorem evRead_any (s : ByteArray) (hs : s.size ≤ 1000000) (w : World) {S : Nat → Bool} {A : Nat → Addr} (E : Env S w A) (h1 : S 1 = true) (h2 : S 2 = true) (h3 : S 3 = true) (h4 : S 4 = true) (h6 : S 6 = true) (h7 : S 7 = true) (h8 : S 8 = true) :
    Calls Tryz.prog 9 #[.string s] w (EvPost A (evRead s.data.toList) w) := by
  rcases hL : cuts 124 s.data.toList with _ | ⟨id, l⟩
  · have T : evRead s.data.toList = .err 1 := by unfold evRead; rw [hL]
    rw [T]
    exact evRead_short s hs (by rw [hL]; simp) w E h1
  · by_cases hl : l.length = 6
    · have T : evRead s.data.toList = readOf id l := by unfold evRead; rw [hL]; simp only; rw [if_neg (by simp [hl])]; rfl
      rw [T]
      exact evRead_seven s hs id l hL hl w E h1 h2 h3 h4 h6 h7 h8
    · have T : evRead s.data.toList = .err 1 := by unfold evRead; rw [hL]; simp only; rw [if_pos hl]
      rw [T]
      exact evRead_short s hs (by rw [hL]; simp; omega) w E h1
end Go.Proofs.YtakainogpokhgaaGreatDoor
