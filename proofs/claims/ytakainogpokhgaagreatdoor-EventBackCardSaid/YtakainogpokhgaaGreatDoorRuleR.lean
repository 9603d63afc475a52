/- Walks of package rule: reading a rule. -/
import Derived.Test.YtakainogpokhgaaGreatDoorRuleK
namespace Go.Proofs.YtakainogpokhgaaGreatDoor
open Go.RowKit Lam

/-- the zero of a rule -/
abbrev zRule : Array Value := #[.string ⟨#[]⟩, .int .i64 0, .slice none 0 0, .int .i64 0, .int .i64 0]
/-- a value is a rule, and its days lie in blocks from base on -/
structure RuleNew (base : Nat) (w : World) (v : Value) (r : Rule) : Prop where
  ex : ∃ a n c, v = .agg #[.string (B r.freq), .int .i64 r.every, .slice a n c, .int .i64 r.count, .int .i64 r.till] ∧ n ≤ c ∧ c ≤ maxLen ∧ Rd w 1 a n (r.days.map (Value.int .i64)) ∧ ∀ b off, 0 < n → a = some ⟨b, off, none⟩ → base ≤ b
/-- what reading a rule answers -/
def ReadPost (A : Nat → Addr) (t : Got Rule) (w : World) (en : Ending) (w' : World) : Prop :=
  Below w.heap.size w w' ∧ match t with
  | .ok r => ∃ v, RuleNew w.heap.size w' v r ∧ en = .returned (.tuple #[v, .nilIface])
  | .err c => c ≠ 0 ∧ en = .returned (.tuple #[.agg zRule, Er (A c)])
def ruleList (L : List Str) : Got Rule :=
  match L with
  | f :: e :: l =>
    if f = sOnce ∨ freqs.contains f = false then .err 1 else
    match numW 9 e with
    | none => .err 1
    | some n =>
      match tailOf (splitDays l).2 with
      | .err c => .err c
      | .ok (k, t) => if ruleErr ⟨f, n, (splitDays l).1, k, t⟩ = 0 then .ok ⟨f, n, (splitDays l).1, k, t⟩ else .err (ruleErr ⟨f, n, (splitDays l).1, k, t⟩)
  | _ => .err 1
theorem ruleRead_list {s : Str} (h : s ≠ sOnce) : ruleRead s = ruleList (cuts 32 s) := by
  unfold ruleRead ruleList; rw [if_neg h]; rfl
theorem readRet {W : World} {N : Nat} {v0 v1 v2 v3 v4 ev : Value} {tmps : Array Value} (hx : W.heap[N]? = some (.cells #[v0, v1, v2, v3, v4] 24 (0, 0))) (h2 : tmps.getD 2 undef = .pointer (some ⟨N, 0, none⟩)) (h3 : tmps.getD 3 undef = ev) :
    (results Tryz.f70 tmps).run Tryz.prog W = .ok (.tuple #[.agg #[v0, v1, v2, v3, v4], ev]) W := by
  have y0 := blk_cells hx 0
  have y1 := blk_cells hx 1
  have y2 := blk_cells hx 2
  have y3 := blk_cells hx 3
  have y4 := blk_cells hx 4
  simp only [Array.getD_eq_getD_getElem?] at h2 h3
  simp [results, Tryz.results70, go_sem, y0, y1, y2, y3, y4, h2, h3]
set_option maxRecDepth 100000 in set_option maxHeartbeats 2000000 in
theorem ruleRead_once (s : ByteArray) (c1 : s.data.toList = sOnce) (w : World) (A : Nat → Addr) :
    Calls Tryz.prog 70 #[.string s] w (ReadPost A (ruleRead s.data.toList) w) := by
    have hsb : s = B sOnce := by rw [← c1]
    subst hsb
    have T : ruleRead (B sOnce).data.toList = .ok ⟨sOnce, 1, [], 0, -1⟩ := by rw [c1]; unfold ruleRead; rw [if_pos rfl]
    rw [T]
    clear T c1
    go_enter Tryz.func70, Tryz.ntmps70
    go_wp2
    refine bodyPost_ret (readRet (N := w.heap.size) (heap_alloc_new w _) rfl rfl) rfl ⟨(Below.refl _ _).alloc (Nat.le_refl _) _, _, ⟨⟨_, _, _, rfl, Nat.le_refl _, Nat.zero_le _, Rd.nil _ _ _, fun _ _ h => absurd h (by omega)⟩⟩, rfl⟩
theorem cell_drew' (W : World) (p : Addr) : W.drew.cell? p = W.cell? p := rfl
theorem cell_setCell_off {W : World} {p q : Addr} {v : Value} (h : q.block ≠ p.block) : (W.setCell p v).cell? q = W.cell? q := by
  unfold World.cell?
  rw [Below.heap_setCell _ _ _ _ h]
theorem box5_set {W : World} {N : Nat} {v0 v1 v2 v3 v4 : Value} {T : TypeId} (h : W.heap[N]? = some (.cells #[v0, v1, v2, v3, v4] T (0, 0))) (u0 u1 u2 u3 u4 : Value) :
    (((((W.setCell ⟨N, 0, none⟩ u0).setCell ⟨N, 1, none⟩ u1).setCell ⟨N, 2, none⟩ u2).setCell ⟨N, 3, none⟩ u3).setCell ⟨N, 4, none⟩ u4).heap[N]? = some (.cells #[u0, u1, u2, u3, u4] T (0, 0)) :=
  blk_sets (blk_sets (blk_sets (blk_sets (blk_sets h 0 u0) 1 u1) 2 u2) 3 u3) 4 u4
theorem box5_below {w W : World} {N : Nat} (h : Below N w W) (u0 u1 u2 u3 u4 : Value) :
    Below N w (((((W.setCell ⟨N, 0, none⟩ u0).setCell ⟨N, 1, none⟩ u1).setCell ⟨N, 2, none⟩ u2).setCell ⟨N, 3, none⟩ u3).setCell ⟨N, 4, none⟩ u4) :=
  ((((h.setCell (p := ⟨N, 0, none⟩) (Nat.le_refl _) _).setCell (p := ⟨N, 1, none⟩) (Nat.le_refl _) _).setCell (p := ⟨N, 2, none⟩) (Nat.le_refl _) _).setCell (p := ⟨N, 3, none⟩) (Nat.le_refl _) _).setCell (p := ⟨N, 4, none⟩) (Nat.le_refl _) _
theorem below_drewN {N : Nat} {w W : World} (h : Below N w W) (k : Nat) : Below N w (W.drewN k) := ⟨h.os, h.tape, h.output, h.size, h.block⟩
theorem cell_set1 {W : World} {N q j : Nat} {v : Value} (h : q ≠ N) : (W.setCell ⟨N, j, none⟩ v).cell? ⟨q, 0, none⟩ = W.cell? ⟨q, 0, none⟩ := cell_setCell_off h
theorem cell_drewN' (W : World) (n : Nat) (p : Addr) : (W.drewN n).cell? p = W.cell? p := rfl
/-- the way to the pieces, and what is told of them -/
structure Pieces (s : ByteArray) (L : List Str) (N N1 : Nat) (w w1 : World) (S : Nat → Bool) (A : Nat → Addr) : Prop where
  below : Below N w w1
  env : Env S w1 A
  box : w1.heap[N]? = some (.cells zRule 24 (0, 0))
  rd : Rd w1 1 (some ⟨N1, 0, none⟩) L.length (L.map fun p => .string (B p))
theorem pieces_any (s : ByteArray) (hs : s.size ≤ 1000000) (L : List Str) (hL : cuts 32 s.data.toList = L) (w : World) {S : Nat → Bool} {A : Nat → Addr} (E : Env S w A) :
    Calls Tryz.prog 31 #[.string s, .string ⟨#[32]⟩] (w.alloc (.cells zRule 24)) fun e w' =>
      ∃ N1, e = .returned (.slice (some ⟨N1, 0, none⟩) L.length L.length) ∧ Pieces s L w.heap.size N1 w w' S A := by
  have hB0 : Below w.heap.size w (w.alloc (.cells zRule 24)) := (Below.refl _ _).alloc (Nat.le_refl _) _
  have hX0 : (w.alloc (.cells zRule 24)).heap[w.heap.size]? = some (.cells zRule 24 (0, 0)) := heap_alloc_new w _
  have E0 := E.up hB0
  generalize w.alloc (.cells zRule 24) = w0 at *
  refine (split_any s 32 (by omega) w0 E0.shaped).mono ?_
  rintro e w1 ⟨rfl, hr, hb1⟩
  rw [hL] at hr ⊢
  exact ⟨_, rfl, Below.next hB0 hb1, E0.up hb1, (hb1.block w.heap.size (Array.getElem?_eq_some_iff.1 hX0).1).trans hX0, hr⟩
theorem pieces_len {c : UInt8} : ∀ {s : Str} {p : Str}, p ∈ cuts c s → p.length ≤ s.length
  | [], p, h => by simp [cuts] at h; subst h; simp
  | x :: r, p, h => by
    unfold cuts at h
    split at h
    · rcases List.mem_cons.1 h with rfl | h
      · simp
      · have := pieces_len h; simp; omega
    · split at h
      · rename_i a t heq
        rcases List.mem_cons.1 h with rfl | h
        · have := pieces_len (c := c) (s := r) (p := a) (by rw [heq]; simp); simp; omega
        · have := pieces_len (c := c) (s := r) (p := p) (by rw [heq]; simp [h]); simp; omega
      · simp at h; subst h; simp
set_option maxRecDepth 100000 in set_option maxHeartbeats 2000000 in
theorem ruleRead_short (s : ByteArray) (hs : s.size ≤ 1000000) (c1 : s.data.toList ≠ sOnce) (hlt : (cuts 32 s.data.toList).length < 2) (w : World) {S : Nat → Bool} {A : Nat → Addr} (E : Env S w A) (h1 : S 1 = true) :
    Calls Tryz.prog 70 #[.string s] w (ReadPost A (.err 1) w) := by
  generalize hL : cuts 32 s.data.toList = L at *
  have P := pieces_any s hs L hL w E
  have c1' : (s.toList == [111, 110, 99, 101]) = false := by rw [beq_eq_false_iff_ne, Lib.toList_data]; exact c1
  clear hL E
  go_enter Tryz.func70, Tryz.ntmps70
  go_wp2_with fail
  refine P.mono ?_
  rintro e w1 ⟨N1, rfl, hb1, E1, hX1, hr⟩
  have ce : w1.cell? ⟨1, 0, none⟩ = some (Er (A 1)) := E1.sent 1 h1
  have hlt2 : (L.length : Int) < 2 := by omega
  have hlt3 : decide ((L.length : Int) < 2) = true := by simp; omega
  clear E1 hr
  have HX := Lib.hid hX1
  have x0 := blk_cells hX1 0
  have x1 := blk_cells hX1 1
  have x2 := blk_cells hX1 2
  have x3 := blk_cells hX1 3
  have x4 := blk_cells hX1 4
  have z0 := blk_frozens hX1 0
  have z1 := blk_frozens hX1 1
  have z2 := blk_frozens hX1 2
  have z3 := blk_frozens hX1 3
  have z4 := blk_frozens hX1 4
  simp [zRule] at x0 x1 x2 x3 x4
  clear hX1
  go_wp2_with fail
  go_quiet (fail)
  go_wp2_with fail
  clear hlt hlt2 hlt3 c1 c1' P
  have hN : (1 : Nat) ≠ w.heap.size := by have := cell_lt ce; intro h; rw [← h] at HX; have h2 := (blk_cells HX.out 0).symm.trans ce; simp [zRule] at h2
  go_region_held3 (fun w' => w'.cell? ⟨1, 0, none⟩ = some (Er (A 1))) ((simp only [cell_drew', cell_drewN', cell_set1 hN]; exact ce)) (fail)
  go_wp2_with fail
  refine bodyPost_ret (readRet (box5_set (show (w1.drewN (nq + 1)).heap[w.heap.size]? = _ from HX.out) _ _ _ _ _) rfl rfl) rfl ⟨box5_below (below_drewN hb1 _) _ _ _ _ _, by decide, rfl⟩

set_option maxRecDepth 100000 in set_option maxHeartbeats 2000000 in
theorem ruleRead_noFreq (s : ByteArray) (hs : s.size ≤ 1000000) (c1 : s.data.toList ≠ sOnce) (f : Str) (L : List Str) (hL : cuts 32 s.data.toList = f :: L) (hn : 1 ≤ L.length) (hf : f = sOnce ∨ freqs.contains f = false) (w : World) {S : Nat → Bool} {A : Nat → Addr} (E : Env S w A) (h1 : S 1 = true) :
    Calls Tryz.prog 70 #[.string s] w (ReadPost A (.err 1) w) := by
  have P := pieces_any s hs _ hL w E
  have c1' : (s.toList == [111, 110, 99, 101]) = false := by rw [beq_eq_false_iff_ne, Lib.toList_data]; exact c1
  have hlen : (cuts 32 s.data.toList).length ≤ 1000001 := by have := cuts_count 32 s.data.toList; rw [len_data] at this; omega
  rw [hL] at hlen
  have hlen2 : 2 ≤ (f :: L).length := by simp; omega
  generalize hn' : (f :: L).length = n at *
  clear hn c1
  go_enter Tryz.func70, Tryz.ntmps70
  go_wp2_with fail
  refine P.mono ?_
  rintro e w1 ⟨N1, rfl, hb1, E1, hX1, hr⟩
  have ce : w1.cell? ⟨1, 0, none⟩ = some (Er (A 1)) := E1.sent 1 h1
  have hlt2 : ¬ (n : Int) < 2 := by omega
  have hlt3 : decide ((n : Int) < 2) = false := by simp; omega
  have hp0 : 0 < n := by omega
  have hp1 : (0 : Int) < (n : Int) := by omega
  have q0 : w1.cell? ⟨N1, 0, none⟩ = some (.string (B f)) := by
    obtain ⟨b, off, e, hc⟩ := hr.at (by omega)
    injection e with e; injection e with e1 e2; subst e1; subst e2
    exact hc 0 (by simp)
  clear E1 hr
  have HX := Lib.hid hX1
  have x0 := blk_cells hX1 0
  have x1 := blk_cells hX1 1
  have x2 := blk_cells hX1 2
  have x3 := blk_cells hX1 3
  have x4 := blk_cells hX1 4
  have z0 := blk_frozens hX1 0
  have z1 := blk_frozens hX1 1
  have z2 := blk_frozens hX1 2
  have z3 := blk_frozens hX1 3
  have z4 := blk_frozens hX1 4
  simp [zRule] at x0 x1 x2 x3 x4
  clear hX1
  have hN : (1 : Nat) ≠ w.heap.size := by have := cell_lt ce; intro h; rw [← h] at HX; have h2 := (blk_cells HX.out 0).symm.trans ce; simp [zRule] at h2
  by_cases ho : f = sOnce
  case pos =>
    obtain rfl : f = [111, 110, 99, 101] := ho
    clear hf
    go_wp2_with fail
    go_quiet (fail)
    go_wp2_with fail
    clear hlt2 hlt3 c1' P
    go_region_held3 (fun w' => w'.cell? ⟨1, 0, none⟩ = some (Er (A 1))) ((simp only [cell_drew', cell_drewN', cell_set1 hN]; exact ce)) (fail)
    go_wp2_with fail
    refine bodyPost_ret (readRet (box5_set (show (w1.drewN 2).heap[w.heap.size]? = _ from HX.out) _ _ _ _ _) rfl rfl) rfl ⟨box5_below (below_drewN hb1 _) _ _ _ _ _, by decide, rfl⟩
  case neg =>
  have ho' : (f == [111, 110, 99, 101]) = false := by rw [beq_eq_false_iff_ne]; exact ho
  have ho2 : ¬ f = [111, 110, 99, 101] := ho
  have hfr : freqs.contains f = false := hf.resolve_left ho
  have FH := fun b w h => Lib.hid (freqs_has f b w h)
  rw [hfr] at FH
  clear hf hfr ho
  have hw1 : w.heap.size < w1.heap.size := (Array.getElem?_eq_some_iff.1 HX.out).1
  clear x0 x1 x2 x3 x4 z0 z1 z2 z3 z4
  go_upto_if 33 with fail
  go_cut [33] (fun s wx => s = .bool true ∧ Below w1.heap.size w1 wx)
  case first =>
    have nq0 := World.new_ne w1 ⟨N1, 0, none⟩ q0
    go_region_held3 (fun w' => w'.cell? ⟨N1, 0, none⟩ = some (.string (B f))) (go_keep) (first | (go_at_call 56; refine (freqs_any _).mono ?_; rintro e w' ⟨rfl, rfl⟩) | (go_at_call 55; refine ((FH _ _ ?hq).out).mono ?_; (case hq => intro j; simp [go_sem]); rintro e w' ⟨rfl, rfl⟩))
    all_goals go_wp2_with fail
    all_goals go_meet
    all_goals exact ⟨rfl, below_drewN ((Below.refl _ _).alloc (Nat.le_refl _) _) 1⟩
  case rest =>
    obtain ⟨rfl, hb2⟩ := hcut
    have ce2 := Below.cells hb2 ce
    have X2 := (hb2.block _ hw1).trans HX.out
    have HX2 := Lib.hid X2
    have x0 := blk_cells X2 0
    have x1 := blk_cells X2 1
    have x2 := blk_cells X2 2
    have x3 := blk_cells X2 3
    have x4 := blk_cells X2 4
    have z0 := blk_frozens X2 0
    have z1 := blk_frozens X2 1
    have z2 := blk_frozens X2 2
    have z3 := blk_frozens X2 3
    have z4 := blk_frozens X2 4
    simp [zRule] at x0 x1 x2 x3 x4
    have hb3 := hb1.trans (hb2.mono (by omega))
    clear X2 ce hlt2 hlt3 c1' P
    go_wp2_with fail
    go_region_held3 (fun w' => w'.cell? ⟨1, 0, none⟩ = some (Er (A 1))) ((simp only [cell_drew', cell_set1 hN]; exact ce2)) (fail)
    go_wp2_with fail
    refine bodyPost_ret (readRet (N := w.heap.size) (v0 := .string ⟨#[]⟩) (v1 := .int .i64 0) (v2 := .slice none 0 0) (v3 := .int .i64 0) (v4 := .int .i64 0) ?hx rfl rfl) rfl ⟨?hb, by decide, rfl⟩
    case hx => exact box5_set HX2.out _ _ _ _ _
    case hb => exact (box5_below hb3 _ _ _ _ _).drew
end Go.Proofs.YtakainogpokhgaaGreatDoor
