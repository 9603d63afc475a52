/- Walks of package rule. -/
import Derived.Test.YtakainogpokhgaaGreatDoorDayT
import Derived.Test.YtakainogpokhgaaGreatDoorEvent
import Derived.Deep.RegionWith
import Derived.Deep.RegionHeld3
import Derived.StillTailTactics
import Derived.Deep.DeepCutAuto
import Derived.Lib.SlicesS
namespace Go.Proofs.YtakainogpokhgaaGreatDoor
open Go.RowKit Lam

theorem within_any (n a b : Int) (w : World) : Calls Tryz.prog 57 #[.int .i64 n, .int .i64 a, .int .i64 b] w fun e w' => e = .returned (.bool (within n a b)) ∧ w = w' := by
  go_enter Tryz.func57, Tryz.ntmps57
  go_wp2
  all_goals go_ret
  all_goals exact ⟨ret_bool (by unfold within; simp; omega), rfl⟩

/-- a rule as a value; its Days lie where w says -/
structure RuleIs (w : World) (v : Value) (r : Rule) : Prop where
  is : ∃ a n c, v = .agg #[.string ⟨r.freq.toArray⟩, .int .i64 r.every, .slice a n c, .int .i64 r.count, .int .i64 r.till] ∧ n ≤ c ∧ c ≤ maxLen ∧ Rd w 1 a n (r.days.map (Value.int .i64))

theorem shape_any (r : Rule) (a : Option Addr) (n c : Nat) (hn : r.days.length = n) (w : World) :
    Calls Tryz.prog 58 #[.agg #[.string ⟨r.freq.toArray⟩, .int .i64 r.every, .slice a n c, .int .i64 r.count, .int .i64 r.till]] w fun e w' => e = .returned (.bool (shapeOk r)) ∧ Below w.heap.size w w' := by
  obtain ⟨f, e, ds, k, t⟩ := r
  simp only at *
  have hl : Hid (ds.isEmpty = decide (n = 0)) := Lib.hid (by rw [← hn]; cases ds <;> simp)
  clear hn
  go_enter Tryz.func58, Tryz.ntmps58
  go_wp2
  all_goals go_ret
  all_goals exact ⟨ret_bool (by unfold shapeOk; rw [hl.out]; simp_all [sOnce, sWeekly]), (Below.refl _ _).alloc (Nat.le_refl _) _⟩

def freqRow : Array Value := #[.string ⟨#[111, 110, 99, 101]⟩, .string ⟨#[100, 97, 105, 108, 121]⟩, .string ⟨#[119, 101, 101, 107, 108, 121]⟩, .string ⟨#[109, 111, 110, 116, 104, 108, 121]⟩, .string ⟨#[121, 101, 97, 114, 108, 121]⟩]
theorem freqs_any (w : World) : Calls Tryz.prog 56 #[] w fun e w' => e = .returned (.slice (some ⟨w.heap.size, 0, none⟩) 5 5) ∧ w' = w.alloc (.cells freqRow 9) := by
  go_enter Tryz.func56, Tryz.ntmps56
  go_wp2
  go_ret
  exact ⟨rfl, rfl⟩
theorem freqs_has (f : Str) (b : Nat) (w : World) (h : ∀ j, w.cell? ⟨b, j, none⟩ = freqRow[j]?) :
    Calls Tryz.prog 55 #[.slice (some ⟨b, 0, none⟩) 5 5, .string ⟨f.toArray⟩] w fun e w' => e = .returned (.bool (freqs.contains f)) ∧ w = w' := by
  refine (Tryz.slices_Contains_string b 0 5 5 (freqs.map fun l => ⟨l.toArray⟩) ⟨f.toArray⟩ w (by simp [freqs]) (by omega) ?_).mono ?_
  · intro j hj
    have hj : j < 5 := hj
    match j, hj with
    | 0, _ | 1, _ | 2, _ | 3, _ | 4, _ => rw [h]; rfl
  · rintro e w' ⟨rfl, rfl⟩
    refine ⟨ret_bool ?_, rfl⟩
    rw [Bool.eq_iff_iff, Lib.containsS_iff]
    show B f ∈ freqs.map B ↔ _
    rw [mem_B]; simp
/-- the five cells of a rule that lies boxed -/
def RuleBox (w : World) (b : Nat) (r : Rule) (a : Option Addr) (n c : Nat) : Prop :=
  w.cell? ⟨b, 0, none⟩ = some (.string ⟨r.freq.toArray⟩) ∧ w.cell? ⟨b, 1, none⟩ = some (.int .i64 r.every) ∧ w.cell? ⟨b, 2, none⟩ = some (.slice a n c) ∧
  w.cell? ⟨b, 3, none⟩ = some (.int .i64 r.count) ∧ w.cell? ⟨b, 4, none⟩ = some (.int .i64 r.till)
def RisingTo (l : List Int) (n : Nat) : Prop := ∀ (j : Nat) (a b : Int), j + 1 < n → l[j]? = some a → l[j + 1]? = some b → a < b
def bnd0 (r : Rule) : Bool := within r.every 1 100 && within r.count 0 1000 && within r.till (-1) 73048
theorem boundOk_eq (r : Rule) : boundOk r = (bnd0 r && r.days.all (within · 0 6)) := rfl
/-- behind the test of the name -/
def ChkA (w : World) (r : Rule) (a : Option Addr) (n c : Nat) (s : Value) (wx : World) : Prop :=
  s = .bool (!freqs.contains r.freq) ∧ RuleBox wx w.heap.size r a n c ∧ Below w.heap.size w wx
set_option maxRecDepth 100000 in
theorem check_any (r : Rule) (a : Option Addr) (n c : Nat) (w : World) (hd : Rd w 1 a n (r.days.map (Value.int .i64))) (hm : n ≤ maxLen) {S : Nat → Bool} {A : Nat → Addr} (E : Env S w A) (h2 : S 2 = true) (h3 : S 3 = true) (h4 : S 4 = true) (h8 : S 8 = true) :
    Calls Tryz.prog 29 #[.agg #[.string ⟨r.freq.toArray⟩, .int .i64 r.every, .slice a n c, .int .i64 r.count, .int .i64 r.till]] w fun e w' => e = .returned (errV A (ruleErr r)) ∧ Below w.heap.size w w' := by
  unfold maxLen at hm
  go_enter Tryz.func29, Tryz.ntmps29
  go_upto_region 1 with fail
  go_cut [11] (fun s wx => ChkA w r a n c s wx)
  case first =>
    go_region_with (first | (go_at_call 56; refine (freqs_any _).mono ?_; rintro e w' ⟨rfl, rfl⟩) | (go_at_call 55; refine (freqs_has r.freq _ _ ?hq).mono ?_; (case hq => intro j; simp [go_sem]); rintro e w' ⟨rfl, rfl⟩))
    all_goals (go_wp2_with fail; go_meet; refine ⟨by simp, ⟨?_, ?_, ?_, ?_, ?_⟩, ?_⟩)
    all_goals first | (simp [go_sem]; done) | exact (((Below.refl _ _).alloc (Nat.le_refl _) _).alloc (by simp) _).drew
  case rest =>
    obtain ⟨rfl, ⟨b0, b1, b2, b3, b4⟩, hb⟩ := hcut
    have hdx := hd.up hb
    have E' := E.up hb
    have hlen := hd.len
    have HL := Lib.hid hlen
    have c4 : wc.cell? ⟨0, 0, none⟩ = some (Er (A 4)) := E'.sent 4 h4
    have c2 : wc.cell? ⟨2, 0, none⟩ = some (Er (A 2)) := E'.sent 2 h2
    clear hlen
    cases hf : freqs.contains r.freq
    · have R := Lib.hid (ruleErr_4 hf)
      clear hf
      go_wp2
      go_ret
      exact ⟨by rw [R.out]; rfl, hb⟩
    have F := Lib.hid hf
    clear hf
    go_upto_region 3 with fail
    go_cut [3] (fun s wy => s = .bool (bnd0 r) ∧ wy = wc)
    case first =>
      go_wp2_with (go_at_call 57; refine (within_any _ _ _ _).mono ?_; rintro e w' ⟨rfl, rfl⟩)
      all_goals go_meet
      all_goals exact ⟨by unfold bnd0; simp_all, rfl⟩
    case rest =>
      obtain ⟨rfl, rfl⟩ := hcut
      go_wp2_with fail
      go_loop [3, 29] (fun s i => ∃ k : Nat, k ≤ n ∧ i = .int .i64 k ∧ s = .bool (bnd0 r && (r.days.take k).all (within · 0 6))) (fun _ i => n - (intOf i).toNat)
      case atStart => exact ⟨0, Nat.zero_le _, rfl, by simp⟩
      case round =>
        obtain ⟨k, hk, rfl, rfl⟩ := hrel
        by_cases hlt : k < n
        · obtain ⟨bb, off, rfl, hc⟩ := hdx.at (by omega)
          have hck := hc k (by rw [HL.out]; exact hlt)
          have T := Lib.hid (all_take (within · 0 6) r.days k (by rw [HL.out]; exact hlt))
          clear hc
          generalize hq : (bnd0 r && (r.days.take k).all (within · 0 6)) = q
          have HQ := Lib.hid hq
          clear hq
          go_wp2_with (go_at_call 57; refine (within_any _ _ _ _).mono ?_; rintro e w' ⟨rfl, rfl⟩)
          all_goals go_round
          all_goals first
            | exact ⟨k + 1, by omega, by go_num, by rw [T.out, ← Bool.and_assoc, HQ.out]; simp_all⟩
            | (simp [intOf]; omega)
        · obtain rfl : k = n := by omega
          have hv : (bnd0 r && (r.days.take k).all (within · 0 6)) = boundOk r := by rw [List.take_of_length_le (by rw [HL.out]; exact Nat.le_refl _)]; rfl
          rw [hv]
          clear hv
          cases hbo : boundOk r
          · have R := Lib.hid (ruleErr_2 F.out hbo)
            clear hbo
            go_wp2
            go_ret
            exact ⟨by rw [R.out]; rfl, hb⟩
          have BO := Lib.hid hbo
          clear hbo c4 c2
          go_wp2_with fail
          refine (shape_any r a k c HL.out _).mono ?_
          rintro e w3 ⟨rfl, hb3⟩
          have b2' : w3.cell? ⟨w.heap.size, 2, none⟩ = some (.slice a k c) := Below.cells hb3 b2
          have E3 := E'.up hb3
          have hd3 := hdx.up hb3
          have c3 : w3.cell? ⟨4, 0, none⟩ = some (Er (A 3)) := E3.sent 3 h3
          have c8 : w3.cell? ⟨5, 0, none⟩ = some (Er (A 8)) := E3.sent 8 h8
          have hb4 := Below.next hb hb3
          clear b0 b1 b2 b3 b4 hdx hb hb3 E3 E' hd hlt hk
          cases hso : shapeOk r
          · have R := Lib.hid (ruleErr_3 F.out BO.out hso)
            clear hso
            go_wp2
            go_ret
            exact ⟨by rw [R.out]; rfl, hb4⟩
          have SO := Lib.hid hso
          clear hso c3
          go_wp2_with fail
          go_loopw [6] (fun i wr => ∃ j m : Nat, 1 ≤ j ∧ (j ≤ k ∨ j = 1) ∧ i = .int .i64 j ∧ wr = w3.drewN m ∧ RisingTo r.days j) (fun i _ => k - (intOf i).toNat)
          case atStart => exact ⟨1, 0, by omega, .inr rfl, rfl, rfl, fun i a b hi => by omega⟩
          case round =>
            obtain ⟨j, m, j1, j2, rfl, rfl, hr⟩ := hrel
            have HR := Lib.hid hr
            clear hr
            by_cases hlt : j < k
            · obtain ⟨bb, off, rfl, hc⟩ := hd3.at (by omega)
              obtain ⟨i, rfl⟩ : ∃ i, j = i + 1 := ⟨j - 1, by omega⟩
              have l1 : i + 1 < r.days.length := by rw [HL.out]; exact hlt
              have l0 : i < r.days.length := by omega
              have hc1 := hc (i + 1) l1
              have hc0 := hc i l0
              have g1 : r.days[i + 1]? = some r.days[i + 1] := List.getElem?_eq_getElem l1
              have g0 : r.days[i]? = some r.days[i] := List.getElem?_eq_getElem l0
              have G1 := Lib.hid g1
              have G0 := Lib.hid g0
              clear hc g1 g0
              generalize r.days[i + 1] = x at *
              generalize r.days[i] = y at *
              clear l1 l0
              by_cases hxy : x ≤ y
              · have R := Lib.hid (ruleErr_8 F.out BO.out SO.out (rising_no G0.out G1.out hxy))
                have i1 : (i : Int) + 1 < (k : Int) := by omega
                have i2 : (i : Int) < (k : Int) := by omega
                go_wp2_with fail
                go_quiet (fail)
                go_wp2
                all_goals go_ret
                all_goals exact ⟨by rw [R.out]; rfl, Below.next hb4 (Below.draws _ _)⟩
              · have i1 : (i : Int) + 1 < (k : Int) := by omega
                have i2 : (i : Int) < (k : Int) := by omega
                go_wp2_with fail
                go_quiet (fail)
                go_wp2
                go_roundw
                case rel =>
                  refine ⟨i + 1 + 1, _, by omega, .inl (by omega), by go_num, rfl, ?_⟩
                  intro u a b hu ha hb'
                  by_cases hu2 : u + 1 < i + 1
                  · exact HR.out u a b hu2 ha hb'
                  · obtain rfl : u = i := by omega
                    rw [G0.out] at ha; rw [G1.out] at hb'
                    injection ha with ha; injection hb' with hb'
                    omega
                case measure => simp [intOf]; omega
            · have hR : Hid (rising r.days = true) := Lib.hid (rising_all (n := j) (by rw [HL.out]; omega) HR.out)
              have R := Lib.hid (ruleErr_0 F.out BO.out SO.out hR.out)
              go_wp2
              go_ret
              exact ⟨by rw [R.out]; rfl, Below.next hb4 (Below.draws _ _)⟩
end Go.Proofs.YtakainogpokhgaaGreatDoor
