/- Walks of package event: put a field's text into an event. -/
import Derived.Test.YtakainogpokhgaaGreatDoorEvM
import Derived.Test.YtakainogpokhgaaGreatDoorClone
namespace Go.Proofs.YtakainogpokhgaaGreatDoor
open Go.RowKit Lam

theorem ruleRead_right {s : Str} {r : Rule} (h : ruleRead s = .ok r) : ruleErr r = 0 := by
  unfold ruleRead at h
  split at h
  · injection h with h; subst h; decide
  · split at h
    · split at h
      · cases h
      · split at h
        · cases h
        · split at h
          · cases h
          · simp only at h
            split at h
            · rename_i h1; injection h with h; subst h; exact h1
            · cases h
    · cases h
/-- no slice of an event lies in block N -/
structure EvOff (h : Hd) (N : Nat) : Prop where
  d : ∀ b off, 0 < h.dn → h.da = some ⟨b, off, none⟩ → b ≠ N
  s : ∀ b off, 0 < h.sn → h.sa = some ⟨b, off, none⟩ → b ≠ N
  m : ∀ b off, 0 < h.mn → h.ma = some ⟨b, off, none⟩ → b ≠ N
theorem EvIs.besides {w w' : World} {e : Ev} {h : Hd} {N : Nat} (k : EvIs w e h) (hb : Besides N w w') (o : EvOff h N) : EvIs w' e h :=
  ⟨k.days.besides hb o.d, k.skips.besides hb o.s, k.moves.besides hb o.m⟩
theorem EvIs.off {w : World} {e : Ev} {h : Hd} {N : Nat} (k : EvIs w e h) (hN : w.heap.size ≤ N) : EvOff h N := by
  refine ⟨fun b off hn e => ?_, fun b off hn e => ?_, fun b off hn e => ?_⟩
  · obtain ⟨b', off', e', hc⟩ := k.days.2 hn
    rw [e] at e'; injection e' with e'; injection e' with e1 e2; subst e1; subst e2
    have hl := k.days.1
    have hj := hc 0 _ (List.getElem?_eq_getElem (by omega))
    have := cell_lt hj
    simp only at this; omega
  · obtain ⟨b', off', e', hc⟩ := k.skips.2 hn
    rw [e] at e'; injection e' with e'; injection e' with e1 e2; subst e1; subst e2
    have hl := k.skips.1
    have hj := hc 0 _ (List.getElem?_eq_getElem (by omega))
    have := cell_lt hj
    simp only at this; omega
  · obtain ⟨b', off', e', hc⟩ := k.moves.2 hn
    rw [e] at e'; injection e' with e'; injection e' with e1 e2; subst e1; subst e2
    have hl := k.moves.1
    have hj := hc 0 _ (List.getElem?_eq_getElem (by omega))
    have := cell_lt hj
    simp only at this; omega
theorem Besides.trans {N : Nat} {a b c : World} (h : Besides N a b) (k : Besides N b c) : Besides N a c :=
  ⟨k.os.trans h.os, k.tape.trans h.tape, k.output.trans h.output, Nat.le_trans h.size k.size, fun j hj hn => (k.block j (Nat.lt_of_lt_of_le hj h.size) hn).trans (h.block j hj hn)⟩
/-- the cells of an event in a block -/
def EvAt (w : World) (N : Nat) (e : Ev) (h : Hd) : Prop := w.heap[N]? = some (.cells (evC e h) 27 (0, 0))
/-- what putting a field leaves -/
def PutPost (A : Nat → Addr) (t : Got Ev) (h : Hd) (N : Nat) (w : World) (en : Ending) (w' : World) : Prop :=
  Besides N w w' ∧ match t with
  | .ok y => en = .returned .nilIface ∧ ∃ h', EvAt w' N y h' ∧ EvIs w' y h' ∧ (∀ M, M < w.heap.size → EvOff h M → EvOff h' M) ∧ EvOk y h'
  | .err c => c ≠ 0 ∧ en = .returned (Er (A c))
theorem readSkips_pos {s : Str} {c : Nat} (h : readSkips s = .err c) : c ≠ 0 := by
  unfold readSkips at h
  split at h
  · cases h
  · generalize cuts 44 s = l at h
    induction l with
    | nil => cases h
    | cons w r ih =>
      unfold skipsGo at h
      split at h
      · rename_i h1; injection h with h; subst h; exact dayRead_pos h1
      · split at h
        · rename_i h1; injection h with h; subst h; exact ih h1
        · cases h
theorem readSkips_len {s : Str} {l : List Int} (h : readSkips s = .ok l) : l.length ≤ s.length + 1 := by
  unfold readSkips at h
  split at h
  · injection h with h; subst h; simp
  · have := skipsGo_length h
    have := cuts_count 44 s
    omega
theorem readMoves_len {s : Str} {l : List (Int × Int)} (h : readMoves s = .ok l) : l.length ≤ s.length + 1 := by
  unfold readMoves at h
  split at h
  · injection h with h; subst h; simp
  · have := movesGo_length h
    have := cuts_count 44 s
    omega
theorem rule_sets {W : World} {N : Nat} {e : Ev} {h : Hd} (hx : EvAt W N e h) (r : Rule) (a : Option Addr) (n c : Nat) :
    EvAt (((((W.setCell ⟨N, 4, none⟩ (.string (B r.freq))).setCell ⟨N, 5, none⟩ (.int .i64 r.every)).setCell ⟨N, 6, none⟩ (.slice a n c)).setCell ⟨N, 7, none⟩ (.int .i64 r.count)).setCell ⟨N, 8, none⟩ (.int .i64 r.till)) N
      { e with rule := r } { h with da := a, dn := n, dc := c } :=
  blk_sets (blk_sets (blk_sets (blk_sets (blk_sets hx 4 _) 5 _) 6 _) 7 _) 8 _
theorem rule_besides {W0 W : World} {N : Nat} (hb : Besides N W0 W) (u4 u5 u6 u7 u8 : Value) :
    Besides N W0 (((((W.setCell ⟨N, 4, none⟩ u4).setCell ⟨N, 5, none⟩ u5).setCell ⟨N, 6, none⟩ u6).setCell ⟨N, 7, none⟩ u7).setCell ⟨N, 8, none⟩ u8) :=
  ((((hb.set 4 _).set 5 _).set 6 _).set 7 _).set 8 _
set_option maxRecDepth 100000 in set_option maxHeartbeats 2000000 in
theorem put_title (e : Ev) (h : Hd) (N : Nat) (t : Str) (ht : t.length ≤ 1000000) (w : World) (A : Nat → Addr) (ok : EvOk e h) (hx : EvAt w N e h) (hr : EvIs w e h) (ho : EvOff h N) :
    Calls Tryz.prog 32 #[.pointer (some ⟨N, 0, none⟩), .string (B (fieldName 0)), .string (B t)] w (PutPost A (putF e 0 t) h N w) := by
  have x1 := (blk_cells hx 1).trans (show _ = some (Value.string (B e.title)) from rfl)
  have z1 := blk_frozens hx 1
  have HX := Lib.hid hx
  rw [show B (fieldName 0) = ⟨#[116, 105, 116, 108, 101]⟩ from rfl]
  clear hx
  go_enter Tryz.func32, Tryz.ntmps32
  go_wp2_with fail
  go_ret
  have hb : Besides N w (w.setCell ⟨N, 1, none⟩ (.string (B t))) := (Besides.of_below (Below.refl _ _)).set 1 _
  exact ⟨hb, rfl, h, blk_sets HX.out 1 _, ⟨hr.days.besides hb ho.d, hr.skips.besides hb ho.s, hr.moves.besides hb ho.m⟩, fun _ _ o => o, ⟨by show t.length ≤ _; omega, ok.dn, ok.sn, ok.mn⟩⟩
set_option maxRecDepth 100000 in set_option maxHeartbeats 2000000 in
theorem put_start (e : Ev) (h : Hd) (N : Nat) (t : Str) (w : World) {S : Nat → Bool} {A : Nat → Addr} (E : Env S w A) (h1 : S 1 = true) (h2 : S 2 = true) (ok : EvOk e h) (hx : EvAt w N e h) (hr : EvIs w e h) (ho : EvOff h N) :
    Calls Tryz.prog 32 #[.pointer (some ⟨N, 0, none⟩), .string (B (fieldName 1)), .string (B t)] w (PutPost A (putF e 1 t) h N w) := by
  have D := dayRead_any (B t) w E h1 h2
  rw [show (B t).data.toList = t by simp] at D
  have HX := Lib.hid hx
  rw [show B (fieldName 1) = ⟨#[115, 116, 97, 114, 116]⟩ from rfl]
  clear hx
  cases hd : dayRead t with
  | err c =>
    have T : Hid (putF e 1 t = .err c) := Lib.hid (by simp only [putF, hd])
    have CP := Lib.hid (dayRead_pos hd)
    rw [hd] at D
    have HD := Lib.hid D
    clear hd D
    go_enter Tryz.func32, Tryz.ntmps32
    go_wp2_with fail
    refine HD.out.mono ?_
    rintro en w1 ⟨rfl, m, rfl⟩
    dsimp only [gotI]
    have hx : EvAt (w.drewN m) N e h := HX.out
    have x2 := (blk_cells hx 2).trans (show _ = some (Value.int .i64 e.start) from rfl)
    have z2 := blk_frozens hx 2
    clear hx
    have hb : Hid (Besides N w ((w.drewN m).setCell ⟨N, 2, none⟩ (.int .i64 0))) := Lib.hid ((Besides.of_below (Below.draws w m)).set 2 _)
    generalize w.drewN m = w1 at *
    go_wp2_with fail
    go_ret
    rw [T.out]
    exact ⟨hb.out, CP.out, rfl⟩
  | ok d =>
    have T : Hid (putF e 1 t = .ok { e with start := d }) := Lib.hid (by simp only [putF, hd])
    rw [hd] at D
    have HD := Lib.hid D
    clear hd D
    go_enter Tryz.func32, Tryz.ntmps32
    go_wp2_with fail
    refine HD.out.mono ?_
    rintro en w1 ⟨rfl, m, rfl⟩
    dsimp only [gotI]
    have hx : EvAt (w.drewN m) N e h := HX.out
    have x2 := (blk_cells hx 2).trans (show _ = some (Value.int .i64 e.start) from rfl)
    have z2 := blk_frozens hx 2
    have HY : Hid (EvAt ((w.drewN m).setCell ⟨N, 2, none⟩ (.int .i64 d)) N { e with start := d } h) := Lib.hid (blk_sets hx 2 _)
    clear hx
    have hb : Hid (Besides N w ((w.drewN m).setCell ⟨N, 2, none⟩ (.int .i64 d))) := Lib.hid ((Besides.of_below (Below.draws w m)).set 2 _)
    generalize w.drewN m = w1 at *
    go_wp2_with fail
    go_ret
    rw [T.out]
    exact ⟨hb.out, rfl, h, HY.out, ⟨hr.days.besides hb.out ho.d, hr.skips.besides hb.out ho.s, hr.moves.besides hb.out ho.m⟩, fun _ _ o => o, ⟨ok.title, ok.dn, ok.sn, ok.mn⟩⟩
set_option maxRecDepth 100000 in set_option maxHeartbeats 2000000 in
theorem put_long (e : Ev) (h : Hd) (N : Nat) (t : Str) (ht : t.length ≤ 1000000) (w : World) {S : Nat → Bool} {A : Nat → Addr} (E : Env S w A) (h1 : S 1 = true) (ok : EvOk e h) (hx : EvAt w N e h) (hr : EvIs w e h) (ho : EvOff h N) :
    Calls Tryz.prog 32 #[.pointer (some ⟨N, 0, none⟩), .string (B (fieldName 2)), .string (B t)] w (PutPost A (putF e 2 t) h N w) := by
  have L : (B t).data.toList = t := by simp
  have HX := Lib.hid hx
  have hN : N < w.heap.size := (Array.getElem?_eq_some_iff.1 hx).1
  rw [show B (fieldName 2) = ⟨#[108, 111, 110, 103]⟩ from rfl]
  clear hx
  by_cases hv : ∃ v, Lib.atoiAll t = .ok v
  case neg =>
    have T : Hid (putF e 2 t = .err 1) := Lib.hid (by
      unfold putF longW
      cases ha : Lib.atoiAll t with
      | ok v => exact absurd ⟨v, ha⟩ hv
      | _ => rfl)
    have D := atoi_bad (B t) (by show t.toArray.size ≤ _; simp; omega) (by rw [L]; exact fun v e => hv ⟨v, e⟩) w E
    have HD := Lib.hid D
    clear hv D L
    go_enter Tryz.func32, Tryz.ntmps32
    go_wp2_with fail
    refine HD.out.mono ?_
    rintro en w1 ⟨v, M, rfl, hb⟩
    have ce : w1.cell? ⟨1, 0, none⟩ = some (Er (A 1)) := (E.up hb).sent 1 h1
    go_wp2_with fail
    go_ret
    rw [T.out]
    exact ⟨Besides.of_below hb, by decide, rfl⟩
  case pos =>
  obtain ⟨v, hv⟩ := hv
  have D := atoi_ok (B t) (by show t.toArray.size ≤ _; simp; omega) v (by rw [L]; exact hv) w
  have HD := Lib.hid D
  have hr0 := atoi_range hv
  have HV := Lib.hid hv
  have IT := fun W (E' : Env S W A) => itoa_any v hr0.1 hr0.2 W E'
  have HI := Lib.hid IT
  clear D L hv IT hr0
  by_cases hl : t.length ≤ 9
  case neg =>
    have T : Hid (putF e 2 t = .err 1) := Lib.hid (by unfold putF longW; rw [HV.out]; simp only; rw [if_neg (fun q => hl q.1)])
    have hl1 : 9 < t.length := by omega
    have hl2 : (9 : Int) < (t.length : Int) := by omega
    go_enter Tryz.func32, Tryz.ntmps32
    go_wp2_with fail
    refine HD.out.mono ?_
    rintro en w1 ⟨rfl, hb⟩
    have ce : w1.cell? ⟨1, 0, none⟩ = some (Er (A 1)) := (E.up hb).sent 1 h1
    go_wp2_with fail
    go_ret
    rw [T.out]
    exact ⟨Besides.of_below hb, by decide, rfl⟩
  case pos =>
  have hl1 : ¬ 9 < t.length := by omega
  have hl2 : ¬ (9 : Int) < (t.length : Int) := by omega
  by_cases hi : Lib.itoa v = t
  case neg =>
    have T : Hid (putF e 2 t = .err 1) := Lib.hid (by unfold putF longW; rw [HV.out]; simp only; rw [if_neg (fun q => hi q.2)])
    have hi1 : (Lib.itoa v == t) = false := by rw [beq_eq_false_iff_ne]; exact hi
    have hi2 : (Lib.itoa v != t) = true := by rw [bne_iff_ne]; exact hi
    go_enter Tryz.func32, Tryz.ntmps32
    go_wp2_with fail
    refine HD.out.mono ?_
    rintro en w1 ⟨rfl, hb⟩
    go_wp2_with fail
    refine (HI.out _ (E.up hb)).mono ?_
    rintro en w2 ⟨rfl, hb2⟩
    have hb3 := Below.next hb hb2
    have ce : w2.cell? ⟨1, 0, none⟩ = some (Er (A 1)) := (E.up hb3).sent 1 h1
    go_wp2_with fail
    go_ret
    rw [T.out]
    exact ⟨Besides.of_below hb3, by decide, rfl⟩
  case pos =>
    have T : Hid (putF e 2 t = .ok { e with long := v }) := Lib.hid (by unfold putF longW; rw [HV.out]; simp only; rw [if_pos ⟨hl, hi⟩])
    subst hi
    go_enter Tryz.func32, Tryz.ntmps32
    go_wp2_with fail
    refine HD.out.mono ?_
    rintro en w1 ⟨rfl, hb⟩
    go_wp2_with fail
    refine (HI.out _ (E.up hb)).mono ?_
    rintro en w2 ⟨rfl, hb2⟩
    have hb3 := Below.next hb hb2
    have hx : EvAt w2 N e h := (hb3.block _ hN).trans HX.out
    have x3 := (blk_cells hx 3).trans (show _ = some (Value.int .i64 e.long) from rfl)
    have z3 := blk_frozens hx 3
    have HY : Hid (EvAt (w2.setCell ⟨N, 3, none⟩ (.int .i64 v)) N { e with long := v } h) := Lib.hid (blk_sets hx 3 _)
    clear hx
    have hbs : Hid (Besides N w (w2.setCell ⟨N, 3, none⟩ (.int .i64 v))) := Lib.hid ((Besides.of_below hb3).set 3 _)
    go_wp2_with fail
    go_ret
    rw [T.out]
    exact ⟨hbs.out, rfl, h, HY.out, ⟨hr.days.besides hbs.out ho.d, hr.skips.besides hbs.out ho.s, hr.moves.besides hbs.out ho.m⟩, fun _ _ o => o, ⟨ok.title, ok.dn, ok.sn, ok.mn⟩⟩
set_option maxRecDepth 100000 in set_option maxHeartbeats 2000000 in
theorem put_rule (e : Ev) (h : Hd) (N : Nat) (t : Str) (ht : t.length ≤ 1000000) (w : World) {S : Nat → Bool} {A : Nat → Addr} (E : Env S w A) (h1 : S 1 = true) (h2 : S 2 = true) (h3 : S 3 = true) (h4 : S 4 = true) (h8 : S 8 = true) (ok : EvOk e h) (hx : EvAt w N e h) (hr : EvIs w e h) (ho : EvOff h N) :
    Calls Tryz.prog 32 #[.pointer (some ⟨N, 0, none⟩), .string (B (fieldName 3)), .string (B t)] w (PutPost A (putF e 3 t) h N w) := by
  have D := ruleRead_any (B t) (by show t.toArray.size ≤ _; simp; omega) w E h1 h2 h3 h4 h8
  rw [show (B t).data.toList = t by simp] at D
  have HX := Lib.hid hx
  have hN : N < w.heap.size := (Array.getElem?_eq_some_iff.1 hx).1
  rw [show B (fieldName 3) = ⟨#[114, 117, 108, 101]⟩ from rfl]
  clear hx
  cases hd : ruleRead t with
  | err c =>
    have T : Hid (putF e 3 t = .err c) := Lib.hid (by simp only [putF, hd])
    rw [hd] at D
    have HD := Lib.hid D
    clear hd D
    go_enter Tryz.func32, Tryz.ntmps32
    go_wp2_with fail
    refine HD.out.mono ?_
    rintro en w1 ⟨hb, hc, rfl⟩
    have CP := Lib.hid hc
    have hx : EvAt w1 N e h := (hb.block _ hN).trans HX.out
    have x4 := (blk_cells hx 4).trans (show _ = some (Value.string (B e.rule.freq)) from rfl)
    have x5 := (blk_cells hx 5).trans (show _ = some (Value.int .i64 e.rule.every) from rfl)
    have x6 := (blk_cells hx 6).trans (show _ = some (Value.slice h.da h.dn h.dc) from rfl)
    have x7 := (blk_cells hx 7).trans (show _ = some (Value.int .i64 e.rule.count) from rfl)
    have x8 := (blk_cells hx 8).trans (show _ = some (Value.int .i64 e.rule.till) from rfl)
    have z4 := blk_frozens hx 4
    have z5 := blk_frozens hx 5
    have z6 := blk_frozens hx 6
    have z7 := blk_frozens hx 7
    have z8 := blk_frozens hx 8
    clear hx hc
    have HB := Lib.hid (Besides.of_below (br := N) hb)
    clear hb
    go_wp2_with fail
    go_ret
    rw [T.out]
    exact ⟨rule_besides HB.out _ _ _ _ _, CP.out, rfl⟩
  | ok r =>
    have T : Hid (putF e 3 t = .ok { e with rule := r }) := Lib.hid (by simp only [putF, hd])
    have hdl := days_len (ruleRead_right hd)
    rw [hd] at D
    have HD := Lib.hid D
    clear hd D
    go_enter Tryz.func32, Tryz.ntmps32
    go_wp2_with fail
    refine HD.out.mono ?_
    rintro en w1 ⟨hb, v, ⟨⟨a, n, c, rfl, hnc, hcm, hrd, hnew⟩⟩, rfl⟩
    have hx : EvAt w1 N e h := (hb.block _ hN).trans HX.out
    have hlen := hrd.len
    have HY := Lib.hid (rule_sets hx r a n c)
    have x4 := (blk_cells hx 4).trans (show _ = some (Value.string (B e.rule.freq)) from rfl)
    have x5 := (blk_cells hx 5).trans (show _ = some (Value.int .i64 e.rule.every) from rfl)
    have x6 := (blk_cells hx 6).trans (show _ = some (Value.slice h.da h.dn h.dc) from rfl)
    have x7 := (blk_cells hx 7).trans (show _ = some (Value.int .i64 e.rule.count) from rfl)
    have x8 := (blk_cells hx 8).trans (show _ = some (Value.int .i64 e.rule.till) from rfl)
    have z4 := blk_frozens hx 4
    have z5 := blk_frozens hx 5
    have z6 := blk_frozens hx 6
    have z7 := blk_frozens hx 7
    have z8 := blk_frozens hx 8
    have HLEN := Lib.hid hlen
    have HRD := Lib.hid hrd
    have HNEW := Lib.hid hnew
    have HB0 := Lib.hid hb
    have HCM := Lib.hid hcm
    have HDL := Lib.hid hdl
    clear hx hlen hrd hnew hb hcm hdl
    go_wp2_with fail
    go_ret
    rw [T.out]
    have hb := HB0.out
    have off : ∀ b off, 0 < n → a = some ⟨b, off, none⟩ → b ≠ N := fun b off hn e => by have := HNEW.out b off hn e; omega
    refine ⟨rule_besides (Besides.of_below hb) _ _ _ _ _, rfl, _, HY.out, ⟨?_, ?_, ?_⟩, fun M hM o => ⟨fun b off hn e => by have := HNEW.out b off hn e; omega, o.s, o.m⟩, ⟨ok.title, ?_, ok.sn, ok.mn⟩⟩
    · exact HRD.out.besides (rule_besides (Besides.of_below (Below.refl _ _)) _ _ _ _ _) off
    · exact hr.skips.besides (rule_besides (Besides.of_below hb) _ _ _ _ _) ho.s
    · exact hr.moves.besides (rule_besides (Besides.of_below hb) _ _ _ _ _) ho.m
    · have := HLEN.out; have := HDL.out; show n ≤ _; omega
set_option maxRecDepth 100000 in set_option maxHeartbeats 2000000 in
theorem put_skips (e : Ev) (h : Hd) (N : Nat) (t : Str) (ht : t.length ≤ 1000000) (w : World) {S : Nat → Bool} {A : Nat → Addr} (E : Env S w A) (h1 : S 1 = true) (h2 : S 2 = true) (ok : EvOk e h) (hx : EvAt w N e h) (hr : EvIs w e h) (ho : EvOff h N) :
    Calls Tryz.prog 32 #[.pointer (some ⟨N, 0, none⟩), .string (B (fieldName 4)), .string (B t)] w (PutPost A (putF e 4 t) h N w) := by
  have D := readSkips_any (B t) (by show t.toArray.size ≤ _; simp; omega) w E h1 h2
  rw [show (B t).data.toList = t by simp] at D
  have HX := Lib.hid hx
  have hN : N < w.heap.size := (Array.getElem?_eq_some_iff.1 hx).1
  rw [show B (fieldName 4) = ⟨#[115, 107, 105, 112, 115]⟩ from rfl]
  clear hx
  cases hd : readSkips t with
  | err c =>
    have T : Hid (putF e 4 t = .err c) := Lib.hid (by simp only [putF, hd])
    rw [hd] at D
    have HD := Lib.hid D
    clear hd D
    go_enter Tryz.func32, Tryz.ntmps32
    go_wp2_with fail
    refine HD.out.mono ?_
    rintro en w1 ⟨hb, hc, rfl⟩
    have CP := Lib.hid hc
    have hx : EvAt w1 N e h := (hb.block _ hN).trans HX.out
    have x4 := (blk_cells hx 9).trans (show _ = some (Value.slice h.sa h.sn h.sc) from rfl)
    have z4 := blk_frozens hx 9
    clear hx hc
    have HB := Lib.hid (Besides.of_below (br := N) hb)
    clear hb
    go_wp2_with fail
    go_ret
    rw [T.out]
    exact ⟨HB.out.set _ _, CP.out, rfl⟩
  | ok r =>
    have T : Hid (putF e 4 t = .ok { e with skips := r }) := Lib.hid (by simp only [putF, hd])
    have hdl := readSkips_len hd
    rw [hd] at D
    have HD := Lib.hid D
    clear hd D
    go_enter Tryz.func32, Tryz.ntmps32
    go_wp2_with fail
    refine HD.out.mono ?_
    rintro en w1 ⟨hb, v, rfl, hown⟩
    obtain ⟨a, c, rfl, hnc, hcm, hrd⟩ := own_form hown
    have hnew : ∀ b off, 0 < r.length → a = some ⟨b, off, none⟩ → w.heap.size ≤ b := fun b off hn e => by
      obtain ⟨g', cap, hv, hb, _⟩ := hown.form hn
      injection hv with hv; rw [e] at hv; injection hv with hv; injection hv with hv; omega
    have hx : EvAt w1 N e h := (hb.block _ hN).trans HX.out
    have HY : Hid (EvAt (w1.setCell ⟨N, 9, none⟩ (.slice a r.length c)) N { e with skips := r } { h with sa := a, sn := r.length, sc := c }) := Lib.hid (blk_sets hx 9 _)
    have x4 := (blk_cells hx 9).trans (show _ = some (Value.slice h.sa h.sn h.sc) from rfl)
    have z4 := blk_frozens hx 9
    have HRD := Lib.hid hrd
    have HNEW := Lib.hid hnew
    have HB0 := Lib.hid hb
    clear hx hrd hnew hb hcm hown
    go_wp2_with fail
    go_ret
    rw [T.out]
    have hb := HB0.out
    have off : ∀ b off, 0 < r.length → a = some ⟨b, off, none⟩ → b ≠ N := fun b off hn e => by have := HNEW.out b off hn e; omega
    have hb1 : Besides N w1 (w1.setCell ⟨N, 9, none⟩ (.slice a r.length c)) := (Besides.of_below (Below.refl _ _)).set _ _
    have hb2 : Besides N w (w1.setCell ⟨N, 9, none⟩ (.slice a r.length c)) := (Besides.of_below hb).set _ _
    exact ⟨hb2, rfl, _, HY.out, ⟨hr.days.besides hb2 ho.d, HRD.out.besides hb1 off, hr.moves.besides hb2 ho.m⟩, fun M hM o => ⟨o.d, fun b off hn e => by have := HNEW.out b off hn e; omega, o.m⟩, ⟨ok.title, ok.dn, by show r.length ≤ _; omega, ok.mn⟩⟩
set_option maxRecDepth 100000 in set_option maxHeartbeats 2000000 in
theorem put_moves (e : Ev) (h : Hd) (N : Nat) (t : Str) (ht : t.length ≤ 1000000) (w : World) {S : Nat → Bool} {A : Nat → Addr} (E : Env S w A) (h1 : S 1 = true) (h2 : S 2 = true) (ok : EvOk e h) (hx : EvAt w N e h) (hr : EvIs w e h) (ho : EvOff h N) :
    Calls Tryz.prog 32 #[.pointer (some ⟨N, 0, none⟩), .string (B (fieldName 5)), .string (B t)] w (PutPost A (putF e 5 t) h N w) := by
  have D := readMoves_any (B t) (by show t.toArray.size ≤ _; simp; omega) w E h1 h2
  rw [show (B t).data.toList = t by simp] at D
  have HX := Lib.hid hx
  have hN : N < w.heap.size := (Array.getElem?_eq_some_iff.1 hx).1
  rw [show B (fieldName 5) = ⟨#[109, 111, 118, 101, 115]⟩ from rfl]
  clear hx
  cases hd : readMoves t with
  | err c =>
    have T : Hid (putF e 5 t = .err c) := Lib.hid (by simp only [putF, hd])
    rw [hd] at D
    have HD := Lib.hid D
    clear hd D
    go_enter Tryz.func32, Tryz.ntmps32
    go_wp2_with fail
    refine HD.out.mono ?_
    rintro en w1 ⟨hb, hc, rfl⟩
    have CP := Lib.hid hc
    have hx : EvAt w1 N e h := (hb.block _ hN).trans HX.out
    have x4 := (blk_cells hx 10).trans (show _ = some (Value.slice h.ma h.mn h.mc) from rfl)
    have z4 := blk_frozens hx 10
    clear hx hc
    have HB := Lib.hid (Besides.of_below (br := N) hb)
    clear hb
    go_wp2_with fail
    go_ret
    rw [T.out]
    exact ⟨HB.out.set _ _, CP.out, rfl⟩
  | ok r =>
    have T : Hid (putF e 5 t = .ok { e with moves := r }) := Lib.hid (by simp only [putF, hd])
    have hdl := readMoves_len hd
    rw [hd] at D
    have HD := Lib.hid D
    clear hd D
    go_enter Tryz.func32, Tryz.ntmps32
    go_wp2_with fail
    refine HD.out.mono ?_
    rintro en w1 ⟨hb, v, rfl, hown⟩
    obtain ⟨a, c, rfl, hnc, hcm, hrd⟩ := own_form hown
    have hnew : ∀ b off, 0 < r.length → a = some ⟨b, off, none⟩ → w.heap.size ≤ b := fun b off hn e => by
      obtain ⟨g', cap, hv, hb, _⟩ := hown.form hn
      injection hv with hv; rw [e] at hv; injection hv with hv; injection hv with hv; omega
    have hx : EvAt w1 N e h := (hb.block _ hN).trans HX.out
    have HY : Hid (EvAt (w1.setCell ⟨N, 10, none⟩ (.slice a r.length c)) N { e with moves := r } { h with ma := a, mn := r.length, mc := c }) := Lib.hid (blk_sets hx 10 _)
    have x4 := (blk_cells hx 10).trans (show _ = some (Value.slice h.ma h.mn h.mc) from rfl)
    have z4 := blk_frozens hx 10
    have HRD := Lib.hid hrd
    have HNEW := Lib.hid hnew
    have HB0 := Lib.hid hb
    clear hx hrd hnew hb hcm hown
    go_wp2_with fail
    go_ret
    rw [T.out]
    have hb := HB0.out
    have off : ∀ b off, 0 < r.length → a = some ⟨b, off, none⟩ → b ≠ N := fun b off hn e => by have := HNEW.out b off hn e; omega
    have hb1 : Besides N w1 (w1.setCell ⟨N, 10, none⟩ (.slice a r.length c)) := (Besides.of_below (Below.refl _ _)).set _ _
    have hb2 : Besides N w (w1.setCell ⟨N, 10, none⟩ (.slice a r.length c)) := (Besides.of_below hb).set _ _
    exact ⟨hb2, rfl, _, HY.out, ⟨hr.days.besides hb2 ho.d, hr.skips.besides hb2 ho.s, HRD.out.besides hb1 off⟩, fun M hM o => ⟨o.d, o.s, fun b off hn e => by have := HNEW.out b off hn e; omega⟩, ⟨ok.title, ok.dn, ok.sn, by show r.length ≤ _; omega⟩⟩
theorem put_any (i : Nat) (hi : i < 6) (e : Ev) (h : Hd) (N : Nat) (t : Str) (ht : t.length ≤ 1000000) (w : World) {S : Nat → Bool} {A : Nat → Addr} (E : Env S w A) (h1 : S 1 = true) (h2 : S 2 = true) (h3 : S 3 = true) (h4 : S 4 = true) (h8 : S 8 = true) (ok : EvOk e h) (hx : EvAt w N e h) (hr : EvIs w e h) (ho : EvOff h N) :
    Calls Tryz.prog 32 #[.pointer (some ⟨N, 0, none⟩), .string (B (fieldName i)), .string (B t)] w (PutPost A (putF e i t) h N w) := by
  match i, hi with
  | 0, _ => exact put_title e h N t ht w A ok hx hr ho
  | 1, _ => exact put_start e h N t w E h1 h2 ok hx hr ho
  | 2, _ => exact put_long e h N t ht w E h1 ok hx hr ho
  | 3, _ => exact put_rule e h N t ht w E h1 h2 h3 h4 h8 ok hx hr ho
  | 4, _ => exact put_skips e h N t ht w E h1 h2 ok hx hr ho
  | 5, _ => exact put_moves e h N t ht w E h1 h2 ok hx hr ho
end Go.Proofs.YtakainogpokhgaaGreatDoor
