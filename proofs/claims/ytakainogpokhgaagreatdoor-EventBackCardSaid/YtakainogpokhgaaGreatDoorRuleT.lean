/- Walks of package rule: a rule's text. -/
import Derived.Test.YtakainogpokhgaaGreatDoorRuleW
import Derived.Maps.AppendAt
import Derived.Test.YtakainogpokhgaaGreatDoorStrW
namespace Go.Proofs.YtakainogpokhgaaGreatDoor
open Go.RowKit Lam

theorem str_info : (Tryz.prog.info? 9).map (fun i => (i.zero, i.size, i.bytes)) = some (some (.string ByteArray.empty), 1, 16) := by kernel_rfl
def nameRow : Array Value := #[.string ⟨#[109, 111]⟩, .string ⟨#[116, 117]⟩, .string ⟨#[119, 101]⟩, .string ⟨#[116, 104]⟩, .string ⟨#[102, 114]⟩, .string ⟨#[115, 97]⟩, .string ⟨#[115, 117]⟩]
theorem names_any (w : World) : Calls Tryz.prog 79 #[] w fun e w' => e = .returned (.slice (some ⟨w.heap.size, 0, none⟩) 7 7) ∧ w' = w.alloc (.cells nameRow 9) := by
  go_enter Tryz.func79, Tryz.ntmps79
  go_wp2
  go_ret
  exact ⟨rfl, rfl⟩
theorem nameRow_at {d : Int} (h0 : 0 ≤ d) (h1 : d ≤ 6) : nameRow[d.toNat]? = some (.string (B (nameOf d))) := by
  obtain ⟨k, rfl⟩ := Int.eq_ofNat_of_zero_le h0
  have hk : k ≤ 6 := by omega
  match k, hk with
  | 0, _ | 1, _ | 2, _ | 3, _ | 4, _ | 5, _ | 6, _ => rfl
def RT0 (r : Rule) (a : Option Addr) (n c : Nat) (w : World) (s : Value) (wx : World) : Prop :=
  s = .string (B (r.freq ++ (32 :: Lib.itoa r.every))) ∧ RuleBox wx w.heap.size r a n c ∧ Below w.heap.size w wx
set_option maxHeartbeats 1000000 in
set_option maxRecDepth 100000 in
theorem ruleText_any (r : Rule) (a : Option Addr) (n c : Nat) (w : World) (hd : Rd w 1 a n (r.days.map (Value.int .i64))) (hm : n ≤ maxLen) {S : Nat → Bool} {A : Nat → Addr} (E : Env S w A) (h2 : S 2 = true) (h3 : S 3 = true) (h4 : S 4 = true) (h8 : S 8 = true) :
    Calls Tryz.prog 39 #[.agg #[.string ⟨r.freq.toArray⟩, .int .i64 r.every, .slice a n c, .int .i64 r.count, .int .i64 r.till]] w fun e w' => e = .returned (.string ⟨(ruleTxt r).toArray⟩) ∧ Below w.heap.size w w' := by
  have hB0 : Below w.heap.size w (w.alloc (.cells #[.string ⟨r.freq.toArray⟩, .int .i64 r.every, .slice a n c, .int .i64 r.count, .int .i64 r.till] 24)) := (Below.refl _ _).alloc (Nat.le_refl _) _
  by_cases he : ruleErr r = 0
  case neg =>
    have T : Hid (ruleTxt r = []) := Lib.hid (by unfold ruleTxt; rw [if_pos he])
    have V := Lib.hid (errV_pos (A := A) he)
    clear he
    go_enter Tryz.func39, Tryz.ntmps39
    go_wp2_with fail
    refine (check_any r a n c _ (hd.up hB0) hm (E.up hB0) h2 h3 h4 h8).mono ?_
    rintro e w1 ⟨rfl, hb1⟩
    rw [V.out]
    go_wp2
    go_ret
    exact ⟨ret_str (by rw [T.out]), Below.next hB0 hb1⟩
  case pos =>
  obtain ⟨hf, hbo, hsh, hri⟩ := ruleErr_zero he
  obtain ⟨e0, e1, c0, c1, t0, t1, hds⟩ := bounds hbo
  have HE := Lib.hid he
  have n7 : n ≤ 7 := by have := days_len he; have := hd.len; omega
  clear hf hbo hsh hri
  by_cases ho : r.freq = sOnce
  · have T : Hid (ruleTxt r = r.freq) := Lib.hid (by unfold ruleTxt; rw [if_neg (by simp [he]), if_pos ho, ho])
    have O := Lib.hid ho
    have tst : (r.freq == [111, 110, 99, 101]) = true := by rw [ho]; rfl
    clear he ho
    go_enter Tryz.func39, Tryz.ntmps39
    go_wp2_with fail
    refine (check_any r a n c _ (hd.up hB0) hm (E.up hB0) h2 h3 h4 h8).mono ?_
    rintro e w1 ⟨rfl, hb1⟩
    rw [HE.out, errV_zero]
    have b0 : w1.cell? ⟨w.heap.size, 0, none⟩ = some (.string ⟨r.freq.toArray⟩) := Below.cells hb1 (new_cell w _ _ 0)
    go_wp2
    go_ret
    exact ⟨ret_str (by rw [T.out]), Below.next hB0 hb1⟩
  have T : Hid (ruleTxt r = r.freq ++ (32 :: (Lib.itoa r.every ++ ((if r.days.isEmpty then [] else 32 :: daysTxt r.days) ++
    ((if 0 < r.count then 32 :: (sCount ++ (32 :: Lib.itoa r.count)) else []) ++ (if r.till ≠ -1 then 32 :: (sUntil ++ (32 :: dayTxt r.till)) else [])))))) := Lib.hid (by unfold ruleTxt; rw [if_neg (by simp [he]), if_neg ho])
  have tst : (r.freq == [111, 110, 99, 101]) = false := by rw [beq_eq_false_iff_ne]; exact ho
  have lf : r.freq.length ≤ 10 := by
    have := (ruleErr_zero he).1
    have : r.freq ∈ freqs := by simpa using this
    simp [freqs] at this
    rcases this with h | h | h | h | h <;> rw [h] <;> decide
  have li : ∀ q : Int, 0 ≤ q → q < 100000 → (Lib.itoa q).length ≤ 5 := by
    intro q q0 q1
    obtain ⟨k, rfl⟩ := Int.eq_ofNat_of_zero_le q0
    rw [itoa_nat]; exact dec_length_le (j := 4) (by omega)
  have le := li r.every (by omega) (by omega)
  have lc := li r.count (by omega) (by omega)
  have LT := Lib.hid (dayTxt_le r.till)
  have lt := dayTxt_le r.till
  clear li he ho
  go_enter Tryz.func39, Tryz.ntmps39
  go_wp2_with fail
  refine (check_any r a n c _ (hd.up hB0) hm (E.up hB0) h2 h3 h4 h8).mono ?_
  rintro e w1 ⟨rfl, hb1⟩
  rw [HE.out, errV_zero]
  have b0 : w1.cell? ⟨w.heap.size, 0, none⟩ = some (.string ⟨r.freq.toArray⟩) := Below.cells hb1 (new_cell w _ _ 0)
  have b1 : w1.cell? ⟨w.heap.size, 1, none⟩ = some (.int .i64 r.every) := Below.cells hb1 (new_cell w _ _ 1)
  have b2 : w1.cell? ⟨w.heap.size, 2, none⟩ = some (.slice a n c) := Below.cells hb1 (new_cell w _ _ 2)
  have b3 : w1.cell? ⟨w.heap.size, 3, none⟩ = some (.int .i64 r.count) := Below.cells hb1 (new_cell w _ _ 3)
  have b4 : w1.cell? ⟨w.heap.size, 4, none⟩ = some (.int .i64 r.till) := Below.cells hb1 (new_cell w _ _ 4)
  have hw1 := Below.next hB0 hb1
  have E1 := E.up hw1
  clear hb1 hB0
  go_upto_region 5 with fail
  go_cut [3] (fun s wx => RT0 r a n c w s wx)
  case first =>
    have q1 : ¬ 9223372036854775807 < r.freq.length + 1 := by omega
    have q2 : ¬ 9223372036854775807 < r.freq.length + 1 + (Lib.itoa r.every).length := by omega
    go_region_held3 (fun w' => w'.cell? ⟨w.heap.size, 0, none⟩ = some (.string ⟨r.freq.toArray⟩) ∧ w'.cell? ⟨w.heap.size, 1, none⟩ = some (.int .i64 r.every)) (first | exact ⟨b0, b1⟩ | exact ⟨d0, d1⟩)
      (first | (go_at_call 38; refine (itoa_any r.every ?h0 ?h1 _ E1.drew).mono ?_; (case h0 => omega); (case h1 => omega); rintro e w5 ⟨rfl, hb5⟩; have hb6 := Below.undrew hb5; have d0 := Below.cells hb6 b0; have d1 := Below.cells hb6 b1))
    all_goals (go_wp2_with fail; go_meet; exact ⟨by congr 1; simp [ByteArray.ext_iff], ⟨d0, d1, Below.cells hb6 b2, Below.cells hb6 b3, Below.cells hb6 b4⟩, Below.next hw1 hb6⟩)
  case rest =>
    clear b0 b1 b2 b3 b4 E1 hw1
    obtain ⟨rfl, ⟨b0, b1, b2, b3, b4⟩, hw1⟩ := hcut
    have E1 := E.up hw1
    have hd1 := hd.up hw1
    have HL := Lib.hid hd.len
    obtain ⟨i0, hi, hz0, hz1, hz2⟩ := info_parts str_info
    generalize hp : r.freq ++ (32 :: Lib.itoa r.every) = pre at *
    have lp : pre.length ≤ 20 := by rw [← hp]; simp; omega
    have HP := Lib.hid hp
    clear hp lf le hd E
    go_wp2_with fail
    go_loopw [4, 25] (fun v i wr => ∃ k : Nat, k ≤ n ∧ i = .int .i64 k ∧ wr.ownsRow wc.heap.size 9 1 v k ((r.days.take k).map fun d => .string (B (nameOf d))) ∧ Below wc.heap.size wc wr) (fun _ i _ => n - (intOf i).toNat)
    case atStart => exact ⟨0, Nat.zero_le _, rfl, World.ownsRow_nil _ _ _ _, Below.refl _ _⟩
    case round =>
      obtain ⟨k, hk, rfl, hown, hbr⟩ := hrel
      by_cases hlt : k < n
      · obtain ⟨bb, off, rfl, hc⟩ := hd1.at (by omega)
        have hkl : k < r.days.length := by rw [HL.out]; exact hlt
        have hck := Below.cells hbr (hc k hkl)
        have hdk := hds _ (List.getElem_mem hkl)
        have T2 : Hid ((r.days.take (k + 1)).map (fun d => Value.string (B (nameOf d))) = (r.days.take k).map (fun d => Value.string (B (nameOf d))) ++ [Value.string (B (nameOf r.days[k]))]) :=
          Lib.hid (by rw [List.take_succ_eq_append_getElem hkl, List.map_append]; rfl)
        generalize r.days[k] = d at *
        obtain ⟨d0, d1⟩ := hdk
        have hn7 : d < 7 := by omega
        clear hc hds
        have hsz := hbr.size
        go_wp2_with fail
        refine (names_any _).mono ?_
        rintro e w' ⟨rfl, rfl⟩
        have hown5 := hown.alloc (.cells nameRow 9)
        have hb5 : Below wc.heap.size wc (wr.alloc (.cells nameRow 9)) := hbr.alloc hsz _
        have cd : (wr.alloc (.cells nameRow 9)).cell? ⟨wr.heap.size, d.toNat, none⟩ = some (.string (B (nameOf d))) := by rw [new_cell]; exact nameRow_at d0 d1
        generalize wr.alloc (.cells nameRow 9) = w5 at *
        go_wp2_with (at_builtin; (refine wpList_append1 w5 rfl (.tmp 29) (.tmp 34) 38 rfl wc.heap.size 9 i0 (.string ByteArray.empty) 16 Tryz.underlying38 hi hz0 hz1 hz2 rfl _ k _ hown5 rfl (.string (B (nameOf d))) rfl rfl ?h6 ?h7 ?h8 ?_); (case h6 => simp only [maxLen]; omega); (case h7 => omega); (case h8 => exact hb5.size); intro v6 w6 hown6 hb6 _)
        go_roundw
        case rel => exact ⟨k + 1, by omega, by go_num, by rw [T2.out]; exact hown6, hb5.trans hb6⟩
        case measure => simp [intOf]; omega
      · obtain rfl : k = n := by omega
        have hsz := hbr.size
        obtain ⟨va, vc, rfl, hvc, _, hrd⟩ := own_form hown
        rw [List.take_of_length_le (by rw [HL.out]; exact Nat.le_refl _)] at hrd
        have hrd' : Rd wr 1 va k ((r.days.map nameOf).map fun s => .string (B s)) := by rw [List.map_map]; exact hrd
        have ld : (daysTxt r.days).length ≤ 30 := by
          have := join_len_le (c := 44) (b := 2) (l := r.days.map nameOf) (fun p hp => by
            obtain ⟨d, hd, rfl⟩ := List.mem_map.1 hp
            rw [name_len (hds d hd).1 (hds d hd).2]; omega)
          rw [List.length_map, HL.out] at this
          unfold daysTxt; omega
        have DT : Hid (daysTxt r.days = Lib.join (r.days.map nameOf) [44]) := Lib.hid rfl
        have EM : Hid (r.days.isEmpty = decide (k = 0)) := Lib.hid (by rw [← HL.out]; cases r.days <;> simp)
        have bb3 := Below.cells hbr b3
        have bb4 := Below.cells hbr b4
        have EE := E1.up hbr
        have hww := Below.next hw1 hbr
        clear b0 b1 b2 b3 b4 hown hbr E1 hw1 hd1 hk hlt hrd
        go_upto_if 39 with fail
        go_cut [3] (fun s wx => s = .string (B (pre ++ (if r.days.isEmpty then [] else 32 :: daysTxt r.days))) ∧ Below wr.heap.size wr wx)
        case first =>
          rcases Nat.eq_zero_or_pos k with h0 | h0
          · subst h0
            go_wp2_with fail
            go_meet
            exact ⟨by rw [EM.out]; simp, Below.refl _ _⟩
          · have EF : Hid (r.days.isEmpty = false) := Lib.hid (by rw [EM.out]; simp; omega)
            go_wp2_with fail
            refine (join_any (r.days.map nameOf) [44] va k vc wr hrd' hvc (by omega) (by rw [← DT.out]; omega)).mono ?_
            rintro e w6 ⟨rfl, hb6⟩
            rw [← DT.out]
            go_wp2_with fail
            go_meet
            exact ⟨by rw [EF.out]; (congr 1; try simp [ByteArray.ext_iff]), hb6⟩
        case rest =>
          obtain ⟨rfl, hb7⟩ := hcut
          have T3 : Hid (ruleTxt r = pre ++ (if r.days.isEmpty then [] else 32 :: daysTxt r.days) ++ ((if 0 < r.count then 32 :: (sCount ++ (32 :: Lib.itoa r.count)) else []) ++ (if r.till ≠ -1 then 32 :: (sUntil ++ (32 :: dayTxt r.till)) else []))) :=
            Lib.hid (by rw [T.out, ← HP.out]; simp)
          have lp2 : (pre ++ (if r.days.isEmpty then [] else 32 :: daysTxt r.days)).length ≤ 60 := by
            rw [List.length_append]; split <;> (simp; try omega)
          generalize pre ++ (if r.days.isEmpty then [] else 32 :: daysTxt r.days) = pre2 at *
          have bc3 := Below.cells hb7 bb3
          have bc4 := Below.cells hb7 bb4
          have E7 := EE.up hb7
          have hw7 := Below.next hww hb7
          clear hrd' bb3 bb4 EE hww hb7 ld lp DT EM
          go_upto_if 47 with fail
          go_cut [3] (fun s wx => s = .string (B (pre2 ++ (if 0 < r.count then 32 :: (sCount ++ (32 :: Lib.itoa r.count)) else []))) ∧ Below wc.heap.size wc wx)
          case first =>
            by_cases hc0 : 0 < r.count
            · go_wp2_with (go_at_call 38; refine (itoa_any r.count ?h0 ?h1 _ E7).mono ?_; (case h0 => omega); (case h1 => omega); rintro e w5 ⟨rfl, hb5⟩)
              go_meet
              exact ⟨by rw [if_pos hc0]; (congr 1; try simp [ByteArray.ext_iff, sCount]), hb5⟩
            · go_wp2_with fail
              go_meet
              exact ⟨by rw [if_neg (by omega)]; simp, Below.refl _ _⟩
          case rest =>
            obtain ⟨rfl, hb8⟩ := hcut
            have lp3 : (pre2 ++ (if 0 < r.count then 32 :: (sCount ++ (32 :: Lib.itoa r.count)) else [])).length ≤ 80 := by
              rw [List.length_append]; split <;> (simp [sCount]; try omega)
            have T4 : Hid (ruleTxt r = (pre2 ++ (if 0 < r.count then 32 :: (sCount ++ (32 :: Lib.itoa r.count)) else [])) ++ (if r.till ≠ -1 then 32 :: (sUntil ++ (32 :: dayTxt r.till)) else [])) :=
              Lib.hid (by rw [T3.out]; simp)
            generalize pre2 ++ (if 0 < r.count then 32 :: (sCount ++ (32 :: Lib.itoa r.count)) else []) = pre3 at *
            have bd4 := Below.cells hb8 bc4
            have E8 := E7.up hb8
            have hw8 := Below.next hw7 hb8
            clear bc3 bc4 E7 hw7 hb8 lp2 lc
            by_cases ht : r.till = -1
            · have tt : (r.till != -1) = false := by simp [ht]
              have T5 : Hid (ruleTxt r = pre3) := Lib.hid (by rw [T4.out, if_neg (by simp [ht])]; simp)
              clear ht
              go_wp2_with fail
              go_ret
              exact ⟨ret_str (by rw [T5.out]), hw8⟩
            · have tt : (r.till != -1) = true := by simp [ht]
              have T5 : Hid (ruleTxt r = pre3 ++ 32 :: (sUntil ++ (32 :: dayTxt r.till))) := Lib.hid (by rw [T4.out, if_pos ht])
              clear ht
              go_wp2_with (go_at_call 37; refine (dayText_any r.till _ E8 h2).mono ?_; rintro e w9 ⟨rfl, hb9⟩)
              go_ret
              exact ⟨ret_str (by rw [T5.out]; simp [ByteArray.ext_iff, sUntil]), Below.next hw8 hb9⟩
end Go.Proofs.YtakainogpokhgaaGreatDoor
