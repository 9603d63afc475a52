/- Walks of package event: texts of its fields. -/
import Derived.Test.YtakainogpokhgaaGreatDoorEvK
import Derived.Deep.AppendLies
namespace Go.Proofs.YtakainogpokhgaaGreatDoor
open Go.RowKit Lam

theorem own_up {w w' : World} {base n size : Nat} {e : TypeId} {v : Value} {xs : List Value} (h : w.ownsRow base e size v n xs) (hb : Below w.heap.size w w') : w'.ownsRow base e size v n xs := by
  refine ⟨h.1, ?_⟩
  rcases h.2 with h2 | ⟨g, cap, cur, hv, hg, hh, r⟩
  · exact .inl h2
  · exact .inr ⟨g, cap, cur, hv, hg, (hb.block g (Array.getElem?_eq_some_iff.1 hh).1).trans hh, r⟩
theorem dayTxt_le (n : Int) : (dayTxt n).length ≤ 10 := by
  cases h : isDay n
  · simp [dayTxt, h]
  · rw [dayTxt_length h]; exact Nat.le_refl _
set_option maxRecDepth 100000 in set_option maxHeartbeats 1000000 in
theorem skips_any (l : List Int) (a : Option Addr) (n c : Nat) (w : World) (hn : n ≤ 10000000) (hd : Rd w 1 a n (l.map (Value.int .i64))) {S : Nat → Bool} {A : Nat → Addr} (E : Env S w A) (h2 : S 2 = true) :
    Calls Tryz.prog 40 #[.slice a n c] w fun e w' => e = .returned (.string (B (skipsTxt l))) ∧ Below w.heap.size w w' := by
  have HL := Lib.hid hd.len
  obtain ⟨i0, hi, hz0, hz1, hz2⟩ := info_parts str_info
  go_enter Tryz.func40, Tryz.ntmps40
  go_wp2_with fail
  go_loopw [3, 8] (fun v i wr => ∃ k : Nat, k ≤ n ∧ i = .int .i64 k ∧ wr.ownsRow w.heap.size 9 1 v k ((l.take k).map fun d => .string (B (dayTxt d))) ∧ Below w.heap.size w wr) (fun _ i _ => n - (intOf i).toNat)
  case atStart => exact ⟨0, Nat.zero_le _, rfl, World.ownsRow_nil _ _ _ _, Below.refl _ _⟩
  case round =>
    obtain ⟨k, hk, rfl, hown, hbr⟩ := hrel
    by_cases hlt : k < n
    · obtain ⟨bb, off, rfl, hc⟩ := hd.at (by omega)
      have hkl : k < l.length := by rw [HL.out]; exact hlt
      have hck := Below.cells hbr (hc k hkl)
      have T2 : Hid ((l.take (k + 1)).map (fun d => Value.string (B (dayTxt d))) = (l.take k).map (fun d => Value.string (B (dayTxt d))) ++ [Value.string (B (dayTxt l[k]))]) :=
        Lib.hid (by rw [List.take_succ_eq_append_getElem hkl, List.map_append]; rfl)
      have DT := dayText_any l[k] wr (E.up hbr) h2
      generalize l[k] = d at *
      clear hc
      go_wp2_with fail
      refine DT.mono ?_
      rintro e w5 ⟨rfl, hb5⟩
      have hown5 := own_up hown hb5
      have hbw := Below.next hbr hb5
      clear hown hbr hb5
      go_wp2_with (at_builtin; (refine wpList_append1 w5 rfl (.tmp 12) (.tmp 15) 38 rfl w.heap.size 9 i0 (.string ByteArray.empty) 16 Tryz.underlying38 hi hz0 hz1 hz2 rfl _ k _ hown5 rfl (.string (B (dayTxt d))) rfl rfl ?h6 ?h7 ?h8 ?_); (case h6 => simp only [maxLen]; omega); (case h7 => omega); (case h8 => exact hbw.size); intro v6 w6 hown6 hb6 _)
      go_roundw
      case rel => exact ⟨k + 1, by omega, by go_num, by rw [T2.out]; exact hown6, hbw.trans hb6⟩
      case measure => simp [intOf]; omega
    · obtain rfl : k = n := by omega
      obtain ⟨va, vc, rfl, hvc, _, hrd⟩ := own_form hown
      rw [List.take_of_length_le (by rw [HL.out]; exact Nat.le_refl _)] at hrd
      have hrd' : Rd wr 1 va k ((l.map dayTxt).map fun s => .string (B s)) := by rw [List.map_map]; exact hrd
      have ld : (Lib.join (l.map dayTxt) [44]).length ≤ 140737488355328 := by
        have := join_len_le (c := 44) (b := 10) (l := l.map dayTxt) (fun p hp => by
          obtain ⟨d, _, rfl⟩ := List.mem_map.1 hp
          exact dayTxt_le d)
        rw [List.length_map, HL.out] at this; omega
      have J := join_any (l.map dayTxt) [44] va k vc wr hrd' hvc (by omega) ld
      rw [show Lib.join (l.map dayTxt) [44] = skipsTxt l from rfl] at J
      clear hown hrd hrd' ld
      go_wp2_with fail
      refine J.mono ?_
      rintro e w6 ⟨rfl, hb6⟩
      go_wp2_with fail
      go_ret
      exact ⟨rfl, Below.next hbr hb6⟩

theorem moveTxt_le (m : Int × Int) : (moveTxt m).length ≤ 21 := by
  have h1 := dayTxt_le m.1
  have h2 := dayTxt_le m.2
  unfold moveTxt; simp; omega
/-- 'v = append(v, u)' at a step of a region that draws -/
theorem step_append1 {P : Program} (w : World) {ops : Array Oper} {o : Oper} {a : Act} {K : Act → World → Prop} {Q : Exit → Act → World → Prop} {E : Prop} (hgd : o.guard = none) (s x : Operand) (t : TypeId)
    (ho : o.op = .call { callee := .builtin .append, args := #[s, x], argTypes := #[t, t] })
    (base : Nat) (e : TypeId) (i : TypeInfo) (z : Value) (bytes : Nat) (ht : P.underlying t = some (.slice e)) (hi : P.info? e = some i) (hz : i.zero = some z)
    (hsize : i.size = 1) (hby : i.bytes = bytes) (hzs : z.cells.size = 1)
    (v : Value) (n : Nat) (xs : List Value) (hown : w.ownsRow base e 1 v n xs) (hs : a.eval s = v)
    (u : Value) (hx : a.eval x = .slice (some ⟨w.heap.size, 0, none⟩) 1 1) (h1 : u.oneCell' = true)
    (h63 : n + 1 ≤ maxLen) (hbytes : (n + 1) * bytes ≤ 140737488355328) (hbase : base ≤ w.heap.size)
    (h : ∀ v' w', w'.ownsRow base e 1 v' (n + 1) (xs ++ [u]) → Below base w w' → KeepsOthers w w' → (∀ k, k < w.heap.size → some k ≠ v.ownBlock → w'.heap[k]? = w.heap[k]?) → K (a.put o.dst v') w') :
    if Region.wanted o (yielded ops a.tmps) = true then Oper.wp P o a (w.alloc (.cells #[u] e)) K Q else E := by
  refine step_append_lies (w.alloc (.cells #[u] e)) hgd s x t ho base e i z 1 bytes ht hi hz hsize hby hzs (by omega) v n xs hs (hown.alloc _) ⟨w.heap.size, 0, none⟩ 1 1 [u] hx rfl (cell_one_new _ _ _) (by simp [h1]) (by omega) h63 hbytes (by simp; omega) _ rfl ?_
  intro g cap w' hown' hg _ _
  obtain ⟨hb, hk⟩ := append1_out hown _ hbase hg
  exact h _ w' hown' hb hk fun k hlt hne => (hg.block k (by simp; omega) hne).trans (Below.heap_alloc w _ k hlt)
theorem keep2 {W W' : World} {p q : Addr} {u v : Value} (hb : Below W.heap.size W W') (h : W.cell? p = some u ∧ W.cell? q = some v) : W'.cell? p = some u ∧ W'.cell? q = some v := ⟨Below.cells hb h.1, Below.cells hb h.2⟩
theorem keepAp {W W' : World} {o : Obj} {b i j : Nat} {u v y : Value} (hap : ∀ k, k < W.heap.size → some k ≠ y.ownBlock → W'.heap[k]? = W.heap[k]?) (hlt : b < W.heap.size) (hne : some b ≠ y.ownBlock)
    (h : (W.alloc o).cell? ⟨b, i, none⟩ = some u ∧ (W.alloc o).cell? ⟨b, j, none⟩ = some v) : W'.cell? ⟨b, i, none⟩ = some u ∧ W'.cell? ⟨b, j, none⟩ = some v := by
  have e := (hap b hlt hne).trans (Below.heap_alloc W o b hlt).symm
  unfold World.cell? at h ⊢
  simp only at h ⊢
  rw [e]; exact h
set_option maxRecDepth 100000 in set_option maxHeartbeats 600000 in
theorem moves_any (l : List (Int × Int)) (a : Option Addr) (n c : Nat) (w : World) (hn : n ≤ 10000000) (hd : Rd w 2 a n (mvC l)) {S : Nat → Bool} {A : Nat → Addr} (E : Env S w A) (h2 : S 2 = true) :
    Calls Tryz.prog 41 #[.slice a n c] w fun e w' => e = .returned (.string (B (movesTxt l))) ∧ Below w.heap.size w w' := by
  have HL := Lib.hid hd.len2
  obtain ⟨i0, hi, hz0, hz1, hz2⟩ := info_parts str_info
  go_enter Tryz.func41, Tryz.ntmps41
  go_wp2_with fail
  go_loopw [3, 8] (fun v i wr => ∃ k : Nat, k ≤ n ∧ i = .int .i64 k ∧ wr.ownsRow w.heap.size 9 1 v k ((l.take k).map fun d => .string (B (moveTxt d))) ∧ Below w.heap.size w wr) (fun _ i _ => n - (intOf i).toNat)
  case atStart => exact ⟨0, Nat.zero_le _, rfl, World.ownsRow_nil _ _ _ _, Below.refl _ _⟩
  case round =>
    obtain ⟨k, hk, rfl, hown, hbr⟩ := hrel
    by_cases hlt : k < n
    · obtain ⟨bb, off, rfl, hc⟩ := hd.at2 (by omega)
      have hkl : k < l.length := by rw [HL.out]; exact hlt
      have hck1 := Below.cells hbr (hc k hkl).1
      have hck2 := Below.cells hbr (hc k hkl).2
      have T2 : Hid ((l.take (k + 1)).map (fun d => Value.string (B (moveTxt d))) = (l.take k).map (fun d => Value.string (B (moveTxt d))) ++ [Value.string (B (moveTxt l[k]))]) :=
        Lib.hid (by rw [List.take_succ_eq_append_getElem hkl, List.map_append]; rfl)
      generalize l[k] = d at *
      have MT : Hid (B (moveTxt d) = (B (dayTxt d.1) ++ ⟨#[62]⟩) ++ B (dayTxt d.2)) := Lib.hid (by unfold moveTxt; simp [ByteArray.ext_iff])
      obtain ⟨d1, d2⟩ := d
      have l1 := dayTxt_le d1
      have l2 := dayTxt_le d2
      have q1 : ¬ 9223372036854775807 < (dayTxt d1).length + 1 := by omega
      have q2 : ¬ 9223372036854775807 < (dayTxt d1).length + 1 + (dayTxt d2).length := by omega
      have hb5 : Below wr.heap.size wr (wr.alloc (.cells #[.int .i64 d1, .int .i64 d2] 68)) := (Below.refl _ _).alloc (Nat.le_refl _) _
      obtain ⟨va, vc, rfl, _, _, _⟩ := own_form hown
      have HVB : some wr.heap.size ≠ (Value.slice va k vc).ownBlock := fun h => by have := (hown.lt _ h.symm).2; omega
      generalize hLL : (l.take k).map (fun d => Value.string (B (moveTxt d))) = LL at *
      clear hLL
      have n0 : (wr.alloc (.cells #[.int .i64 d1, .int .i64 d2] 68)).cell? ⟨wr.heap.size, 0, none⟩ = some (.int .i64 d1) := new_cell _ _ _ 0
      have n1 : (wr.alloc (.cells #[.int .i64 d1, .int .i64 d2] 68)).cell? ⟨wr.heap.size, 1, none⟩ = some (.int .i64 d2) := new_cell _ _ _ 1
      have hown5 := own_up hown hb5
      have hbw := Below.next hbr hb5
      have E5 := E.up hbw
      clear hc hown hb5 l1 l2
      go_upto_region 5 with fail
      generalize wr.alloc (.cells #[.int .i64 d1, .int .i64 d2] 68) = w5 at *
      have E5d := E5.drew
      have O5d := hown5.drew
      have Z5 : wr.heap.size < w5.drew.heap.size := cell_lt n0
      have W5 : Below w.heap.size w w5.drew := hbw.drew
      clear hown5 E5 hbw
      go_region_held3 (fun w' => w'.cell? ⟨wr.heap.size, 0, none⟩ = some (.int .i64 d1) ∧ w'.cell? ⟨wr.heap.size, 1, none⟩ = some (.int .i64 d2))
        (first | exact keep2 hb6 (by assumption) | exact keepAp hap Z6 HVB (by assumption) | exact keep2 ((Below.refl _ _).alloc (Nat.le_refl _) _) (by assumption) | go_keep)
        (first
          | (go_at_call 37; refine (dayText_any _ _ (S := S) (A := A) (by assumption) h2).mono ?_; rintro e w6 ⟨rfl, hb6⟩; have E6 : Env S w6 A := Env.up (by assumption) hb6; have O6 : w6.ownsRow w.heap.size 9 1 (.slice va k vc) k LL := own_up (by assumption) hb6; have Z6 : wr.heap.size < w6.heap.size := Nat.lt_of_lt_of_le (by assumption) hb6.size; have W6 : Below w.heap.size w w6 := Below.next (by assumption) hb6)
          | (refine step_append1 w6 ?g1 (.tmp 12) (.tmp 21) 38 ?g2 w.heap.size 9 i0 (.string ByteArray.empty) 16 Tryz.underlying38 hi hz0 hz1 hz2 rfl (.slice va k vc) k LL O6 ?g3 (.string (B (dayTxt d1) ++ ⟨#[62]⟩ ++ B (dayTxt d2))) ?g4 rfl ?g5 ?g6 W6.size ?_; (case g1 => rfl); (case g2 => rfl); (case g3 => rfl); (case g4 => rfl); (case g5 => simp only [maxLen]; omega); (case g6 => omega); intro v7 w7 hown7 hb7 hk7 hap))
      go_wp2_with fail
      go_roundw
      case rel => exact ⟨k + 1, by omega, by go_num, by rw [T2.out, MT.out]; exact hown7, W6.trans hb7⟩
      case measure => simp [intOf]; omega
    · obtain rfl : k = n := by omega
      obtain ⟨va, vc, rfl, hvc, _, hrd⟩ := own_form hown
      rw [List.take_of_length_le (by rw [HL.out]; exact Nat.le_refl _)] at hrd
      have hrd' : Rd wr 1 va k ((l.map moveTxt).map fun s => .string (B s)) := by rw [List.map_map]; exact hrd
      have ld : (Lib.join (l.map moveTxt) [44]).length ≤ 140737488355328 := by
        have := join_len_le (c := 44) (b := 21) (l := l.map moveTxt) (fun p hp => by
          obtain ⟨d, _, rfl⟩ := List.mem_map.1 hp
          exact moveTxt_le d)
        rw [List.length_map, HL.out] at this; omega
      have J := join_any (l.map moveTxt) [44] va k vc wr hrd' hvc (by omega) ld
      rw [show Lib.join (l.map moveTxt) [44] = movesTxt l from rfl] at J
      clear hown hrd hrd' ld
      go_wp2_with fail
      refine J.mono ?_
      rintro e w6 ⟨rfl, hb6⟩
      go_wp2_with fail
      go_ret
      exact ⟨rfl, Below.next hbr hb6⟩
end Go.Proofs.YtakainogpokhgaaGreatDoor
