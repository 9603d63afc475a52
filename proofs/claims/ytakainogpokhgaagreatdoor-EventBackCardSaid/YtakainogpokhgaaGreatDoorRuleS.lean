/- Walks of package rule: reading a rule, behind its name. -/
import Derived.Test.YtakainogpokhgaaGreatDoorRuleR
namespace Go.Proofs.YtakainogpokhgaaGreatDoor
open Go.RowKit Lam

/-- ahead of the tail: what is left, and the rule so far -/
def MidPost (l : List Str) (f : Str) (e : Int) (N br : Nat) (w : World) (v : Value) (wx : World) : Prop :=
  ∃ a m c da dn dc, v = .slice a m c ∧ m ≤ maxLen ∧ Rd wx 1 a m ((splitDays l).2.map fun p => .string (B p)) ∧
    wx.heap[br]? = some (.cells #[.string (B f), .int .i64 e, .slice da dn dc, .int .i64 0, .int .i64 (-1)] 24 (0, 0)) ∧
    dn ≤ dc ∧ dc ≤ maxLen ∧ Rd wx 1 da dn ((splitDays l).1.map (Value.int .i64)) ∧ (∀ b off, 0 < dn → da = some ⟨b, off, none⟩ → b ≠ br ∧ N < b) ∧ Below N w wx ∧
    wx.heap[N]? = some (.cells zRule 24 (0, 0))
theorem Besides.drew {br : Nat} {w w' : World} (h : Besides br w w') : Besides br w w'.drew := ⟨h.os, h.tape, h.output, h.size, h.block⟩
theorem Rd.besides {w w' : World} {size br n : Nat} {a : Option Addr} {xs : List Value} (h : Rd w size a n xs) (hb : Besides br w w') (ho : ∀ b off, 0 < n → a = some ⟨b, off, none⟩ → b ≠ br) : Rd w' size a n xs := by
  refine ⟨h.1, fun hn => ?_⟩
  obtain ⟨b, off, e, hc⟩ := h.2 hn
  refine ⟨b, off, e, fun j u hu => ?_⟩
  have h1 := hc j u hu
  have h2 := hb.block b (cell_lt h1) (ho b off hn e)
  unfold World.cell? at h1 ⊢
  rw [h2]; exact h1
theorem mid_yes {x : Str} {l : List Str} {f : Str} {m : Int} {N br : Nat} {w w5 W' : World} {ds : List Int} {a5 a' : Option Addr} {c5 c' N1 k : Nat}
    (hyes : daysOf x = some ds) (hB : Below N w w5) (hNbr : N < br) (hbr : br < w5.heap.size) (hrd : Rd w5 1 a5 ds.length (ds.map (Value.int .i64))) (hc1 : ds.length ≤ c5) (hc2 : c5 ≤ maxLen)
    (hoff : ∀ b off, 0 < ds.length → a5 = some ⟨b, off, none⟩ → b ≠ br ∧ N < b) (hR : Rd w5 1 (some ⟨N1, 2, none⟩) k ((x :: l).map fun p => .string (B p))) (hN1 : N1 ≠ br) (hk : k ≤ maxLen)
    (hz : w5.heap[N]? = some (.cells zRule 24 (0, 0))) (ha : k - 1 = 0 ∨ a' = some ⟨N1, 3, none⟩) (hbes : Besides br w5 W')
    (hX : W'.heap[br]? = some (.cells #[.string (B f), .int .i64 m, .slice a5 ds.length c5, .int .i64 0, .int .i64 (-1)] 24 (0, 0))) :
    MidPost (x :: l) f m N br w (.slice a' (k - 1) c') W' := by
  have sp : splitDays (x :: l) = (ds, l) := by simp [splitDays, hyes]
  have hlen : k = l.length + 1 := by have := hR.len; simpa using this.symm
  refine ⟨a', k - 1, c', a5, ds.length, c5, rfl, by omega, ?_, hX, hc1, hc2, ?_, hoff, Besides.below hB hbes (by omega) (by omega), (hbes.block N (by omega) (by omega)).trans hz⟩
  · rw [sp]
    refine ⟨by simp; omega, fun h => ?_⟩
    obtain ⟨b, off, e, hc⟩ := hR.2 (by omega)
    injection e with e; injection e with e1 e2; subst e1; subst e2
    refine ⟨N1, 3, ha.resolve_left (by omega), fun j u hu => ?_⟩
    have h1 := hc (j + 1) u (by simpa using hu)
    have h2 := hbes.block N1 (cell_lt h1) hN1
    rw [show 2 + (j + 1) = 3 + j by omega] at h1
    unfold World.cell? at h1 ⊢
    simp only at h1 h2 ⊢
    rw [h2]; exact h1
  · rw [sp]; exact hrd.besides hbes fun b off hn e => (hoff b off hn e).1
theorem split_mem {p : Str} {l : List Str} (h : p ∈ (splitDays l).2) : p ∈ l := by
  unfold splitDays at h
  split at h
  · exact h
  · split at h
    · exact List.mem_cons_of_mem _ h
    · exact h
set_option maxRecDepth 100000 in set_option maxHeartbeats 2000000 in
theorem ruleRead_freq (s : ByteArray) (hs : s.size ≤ 1000000) (c1 : s.data.toList ≠ sOnce) (f g : Str) (L : List Str) (hL : cuts 32 s.data.toList = f :: g :: L) (ho : f ≠ sOnce) (hfr : freqs.contains f = true) (w : World) {S : Nat → Bool} {A : Nat → Addr} (E : Env S w A)
    (h1 : S 1 = true) (h2 : S 2 = true) (h3 : S 3 = true) (h4 : S 4 = true) (h8 : S 8 = true) :
    Calls Tryz.prog 70 #[.string s] w (ReadPost A (ruleList (f :: g :: L)) w) := by
  have P := pieces_any s hs _ hL w E
  have c1' : (s.toList == [111, 110, 99, 101]) = false := by rw [beq_eq_false_iff_ne, Lib.toList_data]; exact c1
  have hlen : (cuts 32 s.data.toList).length ≤ 1000001 := by have := cuts_count 32 s.data.toList; rw [len_data] at this; omega
  rw [hL] at hlen
  have hlen2 : 2 ≤ (f :: g :: L).length := by simp
  have hsz : ∀ p ∈ f :: g :: L, p.length ≤ 1000000 := fun p hp => by rw [← hL] at hp; have := pieces_len hp; rw [len_data] at this; omega
  have ho' : (f == [111, 110, 99, 101]) = false := by rw [beq_eq_false_iff_ne]; exact ho
  have FH := fun b w h => Lib.hid (freqs_has f b w h)
  rw [hfr] at FH
  generalize hn' : (f :: g :: L).length = n at *
  have HFR := Lib.hid hfr
  have HO := Lib.hid ho
  have HL := Lib.hid hL
  clear c1 hfr ho hL
  go_enter Tryz.func70, Tryz.ntmps70
  go_wp2_with fail
  refine P.mono ?_
  rintro e w1 ⟨N1, rfl, hb1, E1, hX1, hr⟩
  have hlt2 : ¬ (n : Int) < 2 := by omega
  have hlt3 : decide ((n : Int) < 2) = false := by simp; omega
  have hp0 : 0 < n := by omega
  have hp1 : (0 : Int) < (n : Int) := by omega
  obtain ⟨q0, q1⟩ : w1.cell? ⟨N1, 0, none⟩ = some (.string (B f)) ∧ w1.cell? ⟨N1, 1, none⟩ = some (.string (B g)) := by
    obtain ⟨b, off, e, hc⟩ := hr.at (by omega)
    injection e with e; injection e with e1 e2; subst e1; subst e2
    exact ⟨hc 0 (by simp), hc 1 (by simp)⟩
  have hw1 : w.heap.size < w1.heap.size := (Array.getElem?_eq_some_iff.1 hX1).1
  go_upto_if 33 with fail
  go_cut [33] (fun s wx => s = .bool false ∧ Below w1.heap.size w1 wx)
  case first =>
    clear hX1 hr E1 hsz
    have nq0 := World.new_ne w1 ⟨N1, 0, none⟩ q0
    go_region_held3 (fun w' => w'.cell? ⟨N1, 0, none⟩ = some (.string (B f))) (go_keep) (first | (go_at_call 56; refine (freqs_any _).mono ?_; rintro e w' ⟨rfl, rfl⟩) | (go_at_call 55; refine ((FH _ _ ?hq).out).mono ?_; (case hq => intro j; simp [go_sem]); rintro e w' ⟨rfl, rfl⟩))
    all_goals go_wp2_with fail
    all_goals go_meet
    all_goals exact ⟨rfl, below_drewN ((Below.refl _ _).alloc (Nat.le_refl _) _) 1⟩
  case rest =>
    obtain ⟨rfl, hb2⟩ := hcut
    have r0 := Below.cells hb2 q0
    have r1 := Below.cells hb2 q1
    have X2 := (hb2.block _ hw1).trans hX1
    have R2 := hr.up hb2
    have hb3 := Below.trans hb1 (hb2.mono (by omega))
    have E2 := E1.up hb2
    have hw2 : w.heap.size < wc.heap.size := (Array.getElem?_eq_some_iff.1 X2).1
    have hg : g.length ≤ 1000000 := hsz g (by simp)
    have hq1 : (1 : Int) < (n : Int) := by omega
    clear q0 q1 hX1 hr hb1 hb2 E1 hw1 hlt2 hlt3 c1' FH P
    cases hm : numW 9 g with
    | none =>
      have hm' : numW 9 (B g).data.toList = none := by simpa using hm
      have T : ruleList (f :: g :: L) = .err 1 := by
        unfold ruleList; simp only; rw [if_neg (by rw [HFR.out]; simp [HO.out]), hm]
      have TT := Lib.hid T
      have ce := E2.sent 1 h1
      unfold Sent at ce
      simp only [errVar] at ce
      have hN : (1 : Nat) ≠ w.heap.size := by intro h; rw [← h] at X2; have h2 := (blk_cells X2 0).symm.trans ce; simp [zRule] at h2
      have HX := Lib.hid X2
      clear T hm R2 X2 hsz
      go_wp2_with fail
      refine (number_no (s := B g) (by show g.toArray.size ≤ _; simp; omega) hm' _ E2).mono ?_
      rintro e w3 ⟨k, rfl, hb4⟩
      have X3 := (hb4.block _ hw2).trans HX.out
      have ce3 := Below.cells hb4 ce
      have HX3 := Lib.hid X3
      have x0 := blk_cells X3 0
      have x1 := blk_cells X3 1
      have x2 := blk_cells X3 2
      have x3 := blk_cells X3 3
      have x4 := blk_cells X3 4
      have z0 := blk_frozens X3 0
      have z1 := blk_frozens X3 1
      have z2 := blk_frozens X3 2
      have z3 := blk_frozens X3 3
      have z4 := blk_frozens X3 4
      simp [zRule] at x0 x1 x2 x3 x4
      have hb5 := hb3.trans (hb4.mono (by omega))
      clear X3 E2 ce r0 r1 hm'
      go_wp2_with fail
      go_region_held3 (fun w' => w'.cell? ⟨1, 0, none⟩ = some (Er (A 1))) ((simp only [cell_drew', cell_set1 hN]; exact ce3)) (fail)
      go_wp2_with fail
      refine bodyPost_ret (readRet (N := w.heap.size) (v0 := .string ⟨#[]⟩) (v1 := .int .i64 0) (v2 := .slice none 0 0) (v3 := .int .i64 0) (v4 := .int .i64 0) ?hx rfl rfl) rfl ?hp
      case hx => exact box5_set HX3.out _ _ _ _ _
      case hp => rw [TT.out]; exact ⟨(box5_below hb5 _ _ _ _ _).drew, by decide, rfl⟩
    | some m =>
      have hm' : numW 9 (B g).data.toList = some m := by simpa using hm
      have m0 := (numW_some hm).1
      have m1 := numW_lt hm
      have m1 : m < 1000000000 := by simpa using m1
      have HM := Lib.hid hm
      have HX := Lib.hid X2
      have HR := Lib.hid R2
      clear hm X2 R2
      go_wp2_with fail
      refine (number_yes (s := B g) hm' _ E2).mono ?_
      rintro e w3 ⟨rfl, hb4⟩
      have X3 := (hb4.block _ hw2).trans HX.out
      have R3 := HR.out.up hb4
      have r2 := Below.cells hb4 r0
      have hb5 := hb3.trans (hb4.mono (by omega))
      have hw3 : w.heap.size < w3.heap.size := (Array.getElem?_eq_some_iff.1 X3).1
      clear HX HR r0 r1 hb3 hb4 hw2
      have hN1 : N1 < w3.heap.size := cell_lt r2
      have RN : Rd w3 1 (some ⟨N1, 2, none⟩) (n - 2) (L.map fun p => .string (B p)) := by
        refine ⟨by rw [← hn']; simp, fun h => ⟨N1, 2, rfl, fun j u hu => ?_⟩⟩
        obtain ⟨b, off, e, hc⟩ := R3.2 (by rw [hn']; exact hp0)
        injection e with e; injection e with e1 e2; subst e1; subst e2
        have := hc (j + 2) u (by simpa using hu)
        rw [show 2 + j = 0 + (j + 2) by omega]; exact this
      have HB := Lib.hid hb5
      have HX3 := Lib.hid X3
      have B3 : Hid (Below w3.heap.size w3 (w3.alloc (.cells #[.string (B f), .int .i64 m, .slice none 0 0, .int .i64 0, .int .i64 (-1)] 24))) := Lib.hid ((Below.refl _ _).alloc (Nat.le_refl _) _)
      have X4 : Hid ((w3.alloc (.cells #[.string (B f), .int .i64 m, .slice none 0 0, .int .i64 0, .int .i64 (-1)] 24)).heap[w3.heap.size]? = some (.cells #[.string (B f), .int .i64 m, .slice none 0 0, .int .i64 0, .int .i64 (-1)] 24 (0, 0))) := Lib.hid (heap_alloc_new w3 _)
      clear R3 X3 hb5
      have nq := World.new_ne w3 ⟨N1, 0, none⟩ r2
      go_upto_if 56 with fail
      go_cut [4, 7] (fun v p wx => p = .pointer (some ⟨w3.heap.size, 0, none⟩) ∧ MidPost L f m w.heap.size w3.heap.size w v wx)
      case first =>
        cases L with
        | nil =>
          obtain rfl : n = 2 := by simpa using hn'.symm
          have HRN := Lib.hid RN
          clear RN
          go_wp2_with fail
          go_meet
          refine ⟨rfl, _, _, _, _, _, _, rfl, by decide, Rd.nil _ _ _, X4.out, Nat.le_refl _, by decide, Rd.nil _ _ _, fun _ _ h => absurd h (by omega), HB.out.trans (B3.out.mono (by omega)), (B3.out.block _ hw3).trans HX3.out⟩
        | cons x l =>
          have hn3 : 3 ≤ n := by rw [← hn']; simp
          have r3 : w3.cell? ⟨N1, 2, none⟩ = some (.string (B x)) := by
            obtain ⟨b, off, e, hc⟩ := RN.at (by omega)
            injection e with e; injection e with e1 e2; subst e1; subst e2
            exact hc 0 (by simp)
          have hx : x.length ≤ 1000000 := hsz x (by simp)
          have hi0 : 0 < n - 2 := by omega
          have hi1 : (0 : Int) < ((n - 2 : Nat) : Int) := by omega
          have HRN := Lib.hid RN
          have D := fun W => days_any (B x) (by show x.toArray.size ≤ _; simp; omega) W
          rw [show (B x).data.toList = x by simp] at D
          have SP : Hid (splitDays (x :: l) = match daysOf x with | some d => (d, l) | none => ([], x :: l)) := Lib.hid rfl
          clear RN hsz
          go_wp2_with fail
          refine (D _).mono ?_
          rintro e w5 ⟨hb5, hres⟩
          have X5 := (hb5.block w3.heap.size (by simp)).trans X4.out
          have hb6 := Below.next B3.out hb5
          rcases hres with ⟨hno, rfl⟩ | ⟨ds, dv, hyes, rfl, hown⟩
          · rw [hno] at SP
            have HX5 := Lib.hid X5
            have HB6 := Lib.hid hb6
            clear X5 hb6 hno hb5 D
            go_wp2_with fail
            go_meet
            refine ⟨rfl, _, _, _, _, _, _, rfl, by simp only [maxLen]; omega, ?_, HX5.out, Nat.le_refl _, Nat.zero_le _, ?_, fun _ _ h => absurd h (by omega), HB.out.trans (HB6.out.mono (by omega)), (HB6.out.block _ hw3).trans HX3.out⟩
            · rw [SP.out]; exact HRN.out.up HB6.out
            · rw [SP.out]; exact Rd.nil _ _ _
          · rw [hyes] at SP
            obtain ⟨a5, c5, rfl, hc1, hc2, hrd⟩ := own_form hown
            have q2 := (blk_cells X5 2).trans (show _ = some (Value.slice none 0 0) from rfl)
            have p2 := blk_frozens X5 2
            have HX5 := Lib.hid X5
            have HB6 := Lib.hid hb6
            have HO5 := Lib.hid hown
            have HR5 := Lib.hid hrd
            have hn6 : n - 2 ≤ maxLen := by simp only [maxLen]; omega
            have HYES := Lib.hid hyes
            clear X5 hb6 hyes hb5 D hown hrd
            have FIN : ∀ (W' : World) (a' : Option Addr) (c' : Nat), (n - 2 - 1 = 0 ∨ a' = some ⟨N1, 3, none⟩) → Besides w3.heap.size w5 W' →
                W'.heap[w3.heap.size]? = some (.cells #[.string (B f), .int .i64 m, .slice a5 ds.length c5, .int .i64 0, .int .i64 (-1)] 24 (0, 0)) → MidPost (x :: l) f m w.heap.size w3.heap.size w (.slice a' (n - 2 - 1) c') W' :=
              fun W' a' c' h1 h2 h3 => mid_yes HYES.out (HB.out.trans (HB6.out.mono (by omega))) hw3 (Array.getElem?_eq_some_iff.1 HX5.out).1 HR5.out hc1 hc2 (fun b off hn e => by
                obtain ⟨g', cap, hv, hb, _⟩ := HO5.out.form hn
                injection hv with hv; rw [e] at hv; injection hv with hv; injection hv with hv; simp at hb; omega) (HRN.out.up HB6.out) (by omega) hn6 ((HB6.out.block _ hw3).trans HX3.out) h1 h2 h3
            have FI := Lib.hid FIN
            have BS : Hid (Besides w3.heap.size w5 (w5.setCell ⟨w3.heap.size, 2, none⟩ (.slice a5 ds.length c5))) := Lib.hid ((Besides.of_below (Below.refl _ _)).set 2 _)
            have XS := Lib.hid (blk_sets HX5.out 2 (.slice a5 ds.length c5))
            clear FIN
            by_cases hn7 : n = 3
            · subst hn7
              go_wp2_with fail
              go_region_with (fail)
              all_goals (go_wp2_with fail; go_meet)
              all_goals exact ⟨rfl, FI.out _ _ _ (by simp) BS.out.drew XS.out⟩
            · have hcap : ¬ n - 2 = 1 := by omega
              have hcap2 : 1 < n - 2 := by omega
              have hcap3 : (1 : Int) < ((n - 2 : Nat) : Int) := by omega
              go_wp2_with fail
              go_region_with (fail)
              all_goals (go_wp2_with fail; go_meet)
              all_goals exact ⟨rfl, FI.out _ _ _ (by first | exact .inr rfl | simp) BS.out.drew XS.out⟩
      case rest =>
        obtain ⟨rfl, a, mm, cc, da, dn, dc, rfl, hm3, hR, hX, hd1, hd2, hRd, hoff, hB, hz⟩ := hcut
        have T : Hid (ruleList (f :: g :: L) = match tailOf (splitDays L).2 with
            | .err c => .err c
            | .ok (k, t) => if ruleErr ⟨f, m, (splitDays L).1, k, t⟩ = 0 then .ok ⟨f, m, (splitDays L).1, k, t⟩ else .err (ruleErr ⟨f, m, (splitDays L).1, k, t⟩)) := by
          refine Lib.hid ?_
          unfold ruleList; simp only; rw [if_neg (by rw [HFR.out]; simp [HO.out]), HM.out]; rfl
        have E3 := E.up hB
        have hbr := (Array.getElem?_eq_some_iff.1 hX).1
        have hts : ∀ p ∈ (splitDays L).2, p.length ≤ 281474976710656 := fun p hp => by
          have := hsz p (List.mem_cons_of_mem _ (List.mem_cons_of_mem _ (split_mem hp))); omega
        have TL := tail_any (splitDays L).2 hts a mm cc hm3 _ _ _ _ _ E3 h1 h2 hX hR
        have HX := Lib.hid hX
        have HZ := Lib.hid hz
        clear hX hz hsz hR hts RN X4 B3 HX3 nq r2
        go_wp2_with fail
        refine TL.mono ?_
        rintro e w6 ⟨hbes, hres⟩
        have hB6 := Besides.below hB hbes (by omega) (by have := hB.size; omega)
        have E6 := E.up hB6
        have X6 := (hbes.block w.heap.size (by omega) (by omega)).trans HZ.out
        have HX6 := Lib.hid X6
        have ce : w6.cell? ⟨1, 0, none⟩ = some (Er (A 1)) := E6.sent 1 h1
        have x0 := blk_cells X6 0
        have x1 := blk_cells X6 1
        have x2 := blk_cells X6 2
        have x3 := blk_cells X6 3
        have x4 := blk_cells X6 4
        have z0 := blk_frozens X6 0
        have z1 := blk_frozens X6 1
        have z2 := blk_frozens X6 2
        have z3 := blk_frozens X6 3
        have z4 := blk_frozens X6 4
        simp [zRule] at x0 x1 x2 x3 x4
        have HB6 := Lib.hid hB6
        have HRd := Lib.hid hRd
        clear X6 hB hB6 E3 hRd TL
        cases ht : tailOf (splitDays L).2 with
        | err c =>
          rw [ht] at hres
          have TT : Hid (ruleList (f :: g :: L) = .err c) := Lib.hid (by rw [T.out, ht])
          obtain ⟨hc, hE⟩ := hres
          have HC := Lib.hid hc
          clear T ht hc
          rcases hE with rfl | ⟨rfl, rfl⟩
          · go_wp2_with fail
            refine bodyPost_ret (readRet (N := w.heap.size) (v0 := .string ⟨#[]⟩) (v1 := .int .i64 0) (v2 := .slice none 0 0) (v3 := .int .i64 0) (v4 := .int .i64 0) ?hx1 rfl rfl) rfl ?hp1
            case hx1 => exact box5_set HX6.out _ _ _ _ _
            case hp1 => rw [TT.out]; exact ⟨box5_below HB6.out _ _ _ _ _, HC.out, rfl⟩
          · go_wp2_with fail
            refine bodyPost_ret (readRet (N := w.heap.size) (v0 := .string ⟨#[]⟩) (v1 := .int .i64 0) (v2 := .slice none 0 0) (v3 := .int .i64 0) (v4 := .int .i64 0) ?hx2 rfl rfl) rfl ?hp2
            case hx2 => exact box5_set HX6.out _ _ _ _ _
            case hp2 => rw [TT.out]; exact ⟨box5_below HB6.out _ _ _ _ _, HC.out, rfl⟩
        | ok kt =>
          obtain ⟨k, u⟩ := kt
          rw [ht] at hres
          obtain ⟨rfl, hY⟩ := hres
          have TT : Hid (ruleList (f :: g :: L) = if ruleErr ⟨f, m, (splitDays L).1, k, u⟩ = 0 then .ok ⟨f, m, (splitDays L).1, k, u⟩ else .err (ruleErr ⟨f, m, (splitDays L).1, k, u⟩)) := Lib.hid (by rw [T.out, ht])
          have y0 := (blk_cells hY 0).trans (show _ = some (Value.string (B f)) from rfl)
          have y1 := (blk_cells hY 1).trans (show _ = some (Value.int .i64 m) from rfl)
          have y2 := (blk_cells hY 2).trans (show _ = some (Value.slice da dn dc) from rfl)
          have y3 := (blk_cells hY 3).trans (show _ = some (Value.int .i64 k) from rfl)
          have y4 := (blk_cells hY 4).trans (show _ = some (Value.int .i64 u) from rfl)
          have HY := Lib.hid hY
          have RD := HRd.out.besides hbes fun b off hn e => (hoff b off hn e).1
          have CK := check_any ⟨f, m, (splitDays L).1, k, u⟩ da dn dc w6 RD (by omega) E6 h2 h3 h4 h8
          have hw6 : w3.heap.size < w6.heap.size := (Array.getElem?_eq_some_iff.1 hY).1
          have HRD := Lib.hid RD
          clear T ht hY RD
          dsimp only at CK
          generalize hc : ruleErr ⟨f, m, (splitDays L).1, k, u⟩ = c at *
          have HC := Lib.hid hc
          have HX6b := HX6.out
          have BX : ∀ w7, Below w6.heap.size w6 w7 → Below w.heap.size w w7 := fun w7 h => HB6.out.trans (h.mono (by omega))
          have hw7 : w.heap.size < w6.heap.size := (Array.getElem?_eq_some_iff.1 HX6b).1
          have HBX := Lib.hid BX
          clear hc x0 x1 x2 x3 x4 z0 z1 z2 z3 z4 ce HX6b BX
          go_wp2_with fail
          refine CK.mono ?_
          rintro e w7 ⟨rfl, hb7⟩
          have X7 := (hb7.block _ hw7).trans HX6.out
          have HX7 := Lib.hid X7
          have x0 := blk_cells X7 0
          have x1 := blk_cells X7 1
          have x2 := blk_cells X7 2
          have x3 := blk_cells X7 3
          have x4 := blk_cells X7 4
          have z0 := blk_frozens X7 0
          have z1 := blk_frozens X7 1
          have z2 := blk_frozens X7 2
          have z3 := blk_frozens X7 3
          have z4 := blk_frozens X7 4
          simp [zRule] at x0 x1 x2 x3 x4
          have a0 := Below.cells hb7 y0
          have a1 := Below.cells hb7 y1
          have a2 := Below.cells hb7 y2
          have a3 := Below.cells hb7 y3
          have a4 := Below.cells hb7 y4
          have HB7 := Lib.hid (HBX.out w7 hb7)
          have HRD7 := Lib.hid (HRD.out.up hb7)
          clear X7 hb7 CK y0 y1 y2 y3 y4
          by_cases hc0 : c = 0
          · subst hc0
            rw [errV_zero]
            go_wp2_with fail
            refine bodyPost_ret (readRet (N := w.heap.size) (v0 := .string (B f)) (v1 := .int .i64 m) (v2 := .slice da dn dc) (v3 := .int .i64 k) (v4 := .int .i64 u) ?hx3 rfl rfl) rfl ?hp3
            case hx3 => exact box5_set HX7.out _ _ _ _ _
            case hp3 =>
              rw [TT.out, if_pos trivial]
              have hB7 := HB7.out
              refine ⟨box5_below hB7 _ _ _ _ _, _, ⟨⟨da, dn, dc, rfl, hd1, hd2, ?_, fun b off hn e => Nat.le_of_lt (hoff b off hn e).2⟩⟩, rfl⟩
              have hoff' : ∀ b off, 0 < dn → da = some ⟨b, off, none⟩ → b ≠ w.heap.size := fun b off hn e => by have := (hoff b off hn e).2; omega
              exact HRD7.out.besides ((((((Besides.of_below (Below.refl _ _)).set 0 _).set 1 _).set 2 _).set 3 _).set 4 _) hoff'
          · rw [errV_pos hc0]
            go_wp2_with fail
            refine bodyPost_ret (readRet (N := w.heap.size) (v0 := .string ⟨#[]⟩) (v1 := .int .i64 0) (v2 := .slice none 0 0) (v3 := .int .i64 0) (v4 := .int .i64 0) ?hx4 rfl rfl) rfl ?hp4
            case hx4 => exact box5_set HX7.out _ _ _ _ _
            case hp4 => rw [TT.out, if_neg hc0]; exact ⟨box5_below HB7.out _ _ _ _ _, hc0, rfl⟩
/-- ████ rule.Read READS A RULE ████ -/
theorem ruleRead_any (s : ByteArray) (hs : s.size ≤ 1000000) (w : World) {S : Nat → Bool} {A : Nat → Addr} (E : Env S w A) (h1 : S 1 = true) (h2 : S 2 = true) (h3 : S 3 = true) (h4 : S 4 = true) (h8 : S 8 = true) :
    Calls Tryz.prog 70 #[.string s] w (ReadPost A (ruleRead s.data.toList) w) := by
  by_cases c1 : s.data.toList = sOnce
  · exact ruleRead_once s c1 w A
  rw [ruleRead_list c1]
  rcases hL : cuts 32 s.data.toList with _ | ⟨f, _ | ⟨g, L⟩⟩
  · exact ruleRead_short s hs c1 (by rw [hL]; simp) w E h1
  · exact ruleRead_short s hs c1 (by rw [hL]; simp) w E h1
  · by_cases ho : f = sOnce
    · have T : ruleList (f :: g :: L) = .err 1 := by unfold ruleList; simp only; rw [if_pos (.inl ho)]
      rw [T]; exact ruleRead_noFreq s hs c1 f (g :: L) hL (by simp) (.inl ho) w E h1
    cases hfr : freqs.contains f with
    | false =>
      have T : ruleList (f :: g :: L) = .err 1 := by unfold ruleList; simp only; rw [if_pos (.inr hfr)]
      rw [T]; exact ruleRead_noFreq s hs c1 f (g :: L) hL (by simp) (.inr hfr) w E h1
    | true => exact ruleRead_freq s hs c1 f g L hL ho hfr w E h1 h2 h3 h4 h8
end Go.Proofs.YtakainogpokhgaaGreatDoor
