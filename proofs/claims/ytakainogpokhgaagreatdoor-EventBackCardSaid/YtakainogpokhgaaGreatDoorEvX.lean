/- Walks of package event: Text. -/
import Derived.Test.YtakainogpokhgaaGreatDoorEvG
namespace Go.Proofs.YtakainogpokhgaaGreatDoor
open Go.RowKit Lam

theorem itoa_le {n : Int} (h0 : 0 ≤ n) (h1 : n < 1000000000) : (Lib.itoa n).length ≤ 20 := by
  obtain ⟨k, rfl⟩ := Int.eq_ofNat_of_zero_le h0
  rw [itoa_small, Lib.decDigits_length]
  exact nDigits_le k (by omega)
theorem ruleTxt_le {r : Rule} (h : ruleErr r = 0) : (ruleTxt r).length ≤ 200 := by
  obtain ⟨hf, hb, _, _⟩ := ruleErr_zero h
  obtain ⟨e0, e1, c0, c1, t0, t1, hd⟩ := bounds hb
  have hl := days_len h
  have hfl : r.freq.length ≤ 7 := by
    have : r.freq ∈ freqs := by simpa using hf
    simp [freqs] at this
    rcases this with h | h | h | h | h <;> rw [h] <;> decide
  have h1 := itoa_le (n := r.every) (by omega) (by omega)
  have h2 := itoa_le (n := r.count) (by omega) (by omega)
  have h3 := dayTxt_le r.till
  have h4 : (daysTxt r.days).length ≤ 30 := by
    have := join_len_le (c := 44) (b := 2) (l := r.days.map nameOf) (fun p hp => by
      obtain ⟨d, hd', rfl⟩ := List.mem_map.1 hp
      rw [name_len (hd d hd').1 (hd d hd').2]; omega)
    rw [List.length_map] at this
    unfold daysTxt; omega
  unfold ruleTxt
  split
  · simp
  · split
    · decide
    · simp only [List.length_append, List.length_cons]
      have a1 : (if r.days.isEmpty = true then [] else 32 :: daysTxt r.days : Str).length ≤ 40 := by split <;> simp; omega
      have a2 : (if 0 < r.count then 32 :: (sCount ++ (32 :: Lib.itoa r.count)) else [] : Str).length ≤ 40 := by split <;> simp [sCount]; omega
      have a3 : (if r.till ≠ -1 then 32 :: (sUntil ++ (32 :: dayTxt r.till)) else [] : Str).length ≤ 40 := by split <;> simp [sUntil]; omega
      omega
structure EvSmall (e : Ev) : Prop where
  id : e.id.length ≤ 12
  title : e.title.length ≤ 40
  long0 : 1 ≤ e.long
  long1 : e.long ≤ 60
  nskips : e.skips.length ≤ 20
  nmoves : e.moves.length ≤ 20
  rule : ruleErr e.rule = 0
theorem ev_small {e : Ev} (h : evErr e = 0) : EvSmall e := by
  have r := right_of h
  have hn := r.name
  have ht := r.title
  simp [isName] at hn
  simp [isTitle] at ht
  exact ⟨by omega, ht.1, r.long0, r.long1, r.nskips, r.nmoves, r.rule⟩
theorem getF_le {e : Ev} (h : EvSmall e) (i : Nat) : (getF e i).length ≤ 1000 := by
  obtain ⟨h1, h2, h3, h4, h5, h6, h7⟩ := h
  match i with
  | 0 => show e.title.length ≤ _; omega
  | 1 => have := dayTxt_le e.start; show (dayTxt e.start).length ≤ _; omega
  | 2 => have := itoa_le (n := e.long) (by omega) (by omega); show (Lib.itoa e.long).length ≤ _; omega
  | 3 => have := ruleTxt_le h7; show (ruleTxt e.rule).length ≤ _; omega
  | 4 =>
    have := join_len_le (c := 44) (b := 10) (l := e.skips.map dayTxt) (fun p hp => by
      obtain ⟨d, _, rfl⟩ := List.mem_map.1 hp
      exact dayTxt_le d)
    rw [List.length_map] at this
    show (skipsTxt e.skips).length ≤ _
    unfold skipsTxt; omega
  | 5 =>
    have := join_len_le (c := 44) (b := 21) (l := e.moves.map moveTxt) (fun p hp => by
      obtain ⟨d, _, rfl⟩ := List.mem_map.1 hp
      exact moveTxt_le d)
    rw [List.length_map] at this
    show (movesTxt e.moves).length ≤ _
    unfold movesTxt; omega
  | i + 6 => simp [getF]
theorem fieldTxts_take (e : Ev) (k : Nat) (h : k < 6) : (fieldTxts e).take (k + 1) = (fieldTxts e).take k ++ [getF e k] := by
  match k, h with
  | 0, _ | 1, _ | 2, _ | 3, _ | 4, _ | 5, _ => rfl

theorem own_new (w : World) (c : Value) (t : TypeId) : (w.alloc (.cells #[c] t)).ownsRow w.heap.size t 1 (.slice (some ⟨w.heap.size, 0, none⟩) 1 1) 1 [c] :=
  ⟨rfl, .inr ⟨w.heap.size, 1, #[c], rfl, Nat.le_refl _, heap_alloc_new w _, Nat.le_refl _, by decide, rfl, rfl⟩⟩
/-- 'v = append(v, u)', and what is kept besides -/
theorem wpList_append1b {P : Program} (w : World) {ops : Array Oper} {rest : List Oper} {o : Oper} {a : Act} {Q : Exit → Act → World → Prop} (hgd : o.guard = none) (s x : Operand) (t : TypeId)
    (ho : o.op = .call { callee := .builtin .append, args := #[s, x], argTypes := #[t, t] })
    (base : Nat) (e : TypeId) (i : TypeInfo) (z : Value) (bytes : Nat) (ht : P.underlying t = some (.slice e)) (hi : P.info? e = some i) (hz : i.zero = some z)
    (hsize : i.size = 1) (hby : i.bytes = bytes) (hzs : z.cells.size = 1)
    (v : Value) (n : Nat) (xs : List Value) (hown : w.ownsRow base e 1 v n xs) (hs : a.eval s = v)
    (u : Value) (hx : a.eval x = .slice (some ⟨w.heap.size, 0, none⟩) 1 1) (h1 : u.oneCell' = true)
    (h63 : n + 1 ≤ maxLen) (hbytes : (n + 1) * bytes ≤ 140737488355328) (hbase : base ≤ w.heap.size)
    (h : ∀ v' w', w'.ownsRow base e 1 v' (n + 1) (xs ++ [u]) → Below base w w' → (∀ k, k < w.heap.size → some k ≠ v.ownBlock → w'.heap[k]? = w.heap[k]?) → (∀ g, v'.ownBlock = some g → v.ownBlock = some g ∨ w.heap.size ≤ g) →
      wpList P ops Q rest (a.put o.dst v') w') :
    wpList P ops Q (o :: rest) a (w.alloc (.cells #[u] e)) := by
  refine wpList_append_lies (w.alloc (.cells #[u] e)) hgd s x t ho base e i z 1 bytes ht hi hz hsize hby hzs (by omega) v n xs hs (hown.alloc _) ⟨w.heap.size, 0, none⟩ 1 1 [u] hx rfl (cell_one_new _ _ _) (by simp [h1]) (by omega) h63 hbytes (by simp; omega) _ rfl ?_
  intro g cap w' hown' hg hat _
  obtain ⟨hb, hk⟩ := append1_out hown _ hbase hg
  refine h _ w' hown' hb (fun k hlt hne => (hg.block k (by simp; omega) hne).trans (Below.heap_alloc w _ k hlt)) (fun g' hg' => ?_)
  have : g = g' := by simpa [Value.ownBlock] using hg'
  subst this
  rcases hat with h | h
  · exact .inl h
  · right; rw [h]; simp
set_option maxRecDepth 100000 in set_option maxHeartbeats 2000000 in
theorem evText_any (e : Ev) (h : Hd) (w : World) (ok : EvOk e h) (hr : EvIs w e h) {S : Nat → Bool} {A : Nat → Addr} (E : Env S w A) (h1 : S 1 = true) (h2 : S 2 = true) (h3 : S 3 = true) (h4 : S 4 = true) (h6 : S 6 = true) (h7 : S 7 = true) (h8 : S 8 = true) :
    Calls Tryz.prog 10 #[.agg (evC e h)] w fun en w' => en = .returned (.string (B (evTxt e))) ∧ Below w.heap.size w w' := by
  have hb1 : Below w.heap.size w (w.alloc (.cells (evC e h) 27)) := (Below.refl _ _).alloc (Nat.le_refl _) _
  have C : ∀ j, (w.alloc (.cells (evC e h) 27)).cell? ⟨w.heap.size, j, none⟩ = (evC e h)[j]? := fun j => new_cell _ _ _ j
  have c0 := (C 0).trans (show _ = some (Value.string (B e.id)) from rfl)
  have c1 := (C 1).trans (show _ = some (Value.string (B e.title)) from rfl)
  have c2 := (C 2).trans (show _ = some (Value.int .i64 e.start) from rfl)
  have c3 := (C 3).trans (show _ = some (Value.int .i64 e.long) from rfl)
  have c4 := (C 4).trans (show _ = some (Value.string (B e.rule.freq)) from rfl)
  have c5 := (C 5).trans (show _ = some (Value.int .i64 e.rule.every) from rfl)
  have c6 := (C 6).trans (show _ = some (Value.slice h.da h.dn h.dc) from rfl)
  have c7 := (C 7).trans (show _ = some (Value.int .i64 e.rule.count) from rfl)
  have c8 := (C 8).trans (show _ = some (Value.int .i64 e.rule.till) from rfl)
  have c9 := (C 9).trans (show _ = some (Value.slice h.sa h.sn h.sc) from rfl)
  have c10 := (C 10).trans (show _ = some (Value.slice h.ma h.mn h.mc) from rfl)
  have hr1 := hr.up hb1
  have E1 := E.up hb1
  have K1 := evCheck_any e h _ ok hr1 E1 h1 h2 h3 h4 h6 h7 h8
  rw [show evC e h = #[.string (B e.id), .string (B e.title), .int .i64 e.start, .int .i64 e.long, .string (B e.rule.freq), .int .i64 e.rule.every, .slice h.da h.dn h.dc, .int .i64 e.rule.count, .int .i64 e.rule.till,
    .slice h.sa h.sn h.sc, .slice h.ma h.mn h.mc] from rfl] at *
  clear hr E C
  obtain ⟨i0, hi, hz0, hz1, hz2⟩ := info_parts str_info
  by_cases he : evErr e = 0
  case neg =>
    have T : Hid (evTxt e = []) := Lib.hid (by unfold evTxt; rw [if_pos he])
    rw [errV_pos he] at K1
    clear he
    go_enter Tryz.func10, Tryz.ntmps10
    go_upto_region 1 with fail
    generalize World.alloc w _ = w1 at *
    go_wp2_with fail
    refine K1.mono ?_
    rintro en w2 ⟨rfl, hb2⟩
    go_wp2_with fail
    go_ret
    exact ⟨ret_str (by rw [T.out]), Below.next hb1 hb2⟩
  case pos =>
  have T : Hid (evTxt e = Lib.join (e.id :: fieldTxts e) [124]) := Lib.hid (by unfold evTxt; rw [if_neg (by simp [he])])
  have SM := ev_small he
  rw [he, errV_zero] at K1
  clear he
  go_enter Tryz.func10, Tryz.ntmps10
  go_upto_region 1 with fail
  generalize World.alloc w _ = w1 at *
  go_wp2_with fail
  refine K1.mono ?_
  rintro en w2 ⟨rfl, hb2⟩
  have d0 := Below.cells hb2 c0
  go_upto_region 4 with fail
  have hb3 : Below w2.heap.size w2 (w2.alloc (.cells #[.string (B e.id)] 9)) := (Below.refl _ _).alloc (Nat.le_refl _) _
  have own3 := own_new w2 (.string (B e.id)) 9
  have hb13 := Below.next hb2 hb3
  generalize w2.alloc (.cells #[.string (B e.id)] 9) = w3 at *
  go_wp2_with fail
  refine (fields_any w3).mono ?_
  rintro en w4 ⟨rfl, rfl⟩
  have hb4 : Below w3.heap.size w3 (w3.alloc (.cells fieldRow 9)) := (Below.refl _ _).alloc (Nat.le_refl _) _
  have row : ∀ i, i < 6 → (w3.alloc (.cells fieldRow 9)).cell? ⟨w3.heap.size, i, none⟩ = some (.string (B (fieldName i))) := fun i hi => (new_cell _ _ _ i).trans (fieldRow_at i hi)
  have own4 := own_up own3 hb4
  have hb14 := Below.next hb13 hb4
  have HFB : w3.heap.size ≠ w2.heap.size := by have := own3.lt w2.heap.size rfl; omega
  generalize w3.heap.size = fb at *
  generalize w3.alloc (.cells fieldRow 9) = w4 at *
  have hb24 : w2.heap.size ≤ w4.heap.size := by have := own4.lt w2.heap.size rfl; omega
  have G : ∀ W, Below w1.heap.size w1 W → ∀ k, k < 6 → Calls Tryz.prog 14 #[.agg (evC e h), .string (B (fieldName k))] W fun en w' => en = .returned (.string (B (getF e k))) ∧ Below W.heap.size W w' := fun W hb k hk =>
    get_any k hk e h W ok (by have := SM.long0; omega) (by have := SM.long1; omega) (hr1.up hb) (E1.up hb) h2 h3 h4 h8
  rw [show evC e h = #[.string (B e.id), .string (B e.title), .int .i64 e.start, .int .i64 e.long, .string (B e.rule.freq), .int .i64 e.rule.every, .slice h.da h.dn h.dc, .int .i64 e.rule.count, .int .i64 e.rule.till,
    .slice h.sa h.sn h.sc, .slice h.ma h.mn h.mc] from rfl] at G
  have CC := Lib.hid (And.intro c0 (And.intro c1 (And.intro c2 (And.intro c3 (And.intro c4 (And.intro c5 (And.intro c6 (And.intro c7 (And.intro c8 (And.intro c9 c10))))))))))
  have hfb : fb ≠ w2.heap.size := HFB
  have hB4 := Below.next hb1 hb14
  have hw24 : w1.heap.size ≤ w2.heap.size := hb2.size
  have GG := Lib.hid G
  have ROW := Lib.hid row
  clear c0 c1 c2 c3 c4 c5 c6 c7 c8 c9 c10 hr1 E1 K1 d0 own3 hb2 hb3 hb13 hb4 G row ok HFB
  go_wp2_with fail
  go_loopw [3, 14] (fun v i wr => ∃ k : Nat, k ≤ 6 ∧ i = .int .i64 k ∧ wr.ownsRow w2.heap.size 9 1 v (k + 1) ((e.id :: (fieldTxts e).take k).map fun s => .string (B s)) ∧ Below w2.heap.size w4 wr ∧ (∀ g, v.ownBlock = some g → g ≠ fb) ∧ wr.heap[fb]? = w4.heap[fb]?) (fun _ i _ => 6 - (intOf i).toNat)
  case atStart => exact ⟨0, Nat.zero_le _, rfl, own4, Below.refl _ _, fun g hg => by simp [Value.ownBlock] at hg; omega, rfl⟩
  case round =>
    obtain ⟨k, hk, rfl, hown, hbr, hvf, hfbk⟩ := hrel
    have hb1r : Below w1.heap.size w1 wr := hb14.trans (hbr.mono hw24)
    by_cases hlt : k < 6
    · obtain ⟨f0, f1, f2, f3, f4, f5, f6, f7, f8, f9, f10⟩ := CC.out
      replace f0 := Below.cells hb1r f0
      replace f1 := Below.cells hb1r f1
      replace f2 := Below.cells hb1r f2
      replace f3 := Below.cells hb1r f3
      replace f4 := Below.cells hb1r f4
      replace f5 := Below.cells hb1r f5
      replace f6 := Below.cells hb1r f6
      replace f7 := Below.cells hb1r f7
      replace f8 := Below.cells hb1r f8
      replace f9 := Below.cells hb1r f9
      replace f10 := Below.cells hb1r f10
      have fr : wr.cell? ⟨fb, k, none⟩ = some (.string (B (fieldName k))) := by
        have := ROW.out k hlt
        unfold World.cell? at this ⊢
        simp only at this ⊢
        rw [hfbk]; exact this
      have GK := GG.out wr hb1r k hlt
      have T2 : Hid ((e.id :: (fieldTxts e).take (k + 1)).map (fun s => Value.string (B s)) = (e.id :: (fieldTxts e).take k).map (fun s => Value.string (B s)) ++ [Value.string (B (getF e k))]) :=
        Lib.hid (by rw [fieldTxts_take e k hlt]; simp)
      have i1 : (k : Int) < 6 := by omega
      have hfbr := Lib.hid hfbk
      have hfl : fb < wr.heap.size := cell_lt fr
      generalize fieldName k = fn at *
      generalize getF e k = gt at *
      generalize hLL : (e.id :: (fieldTxts e).take k).map (fun s => Value.string (B s)) = LL at *
      clear hfbk hLL
      go_wp2_with fail
      refine GK.mono ?_
      rintro en w5 ⟨rfl, hb5⟩
      have hown5 := own_up hown hb5
      have hbw := hbr.trans (hb5.mono (by have := hbr.size; omega))
      have hz := hb5.size
      go_wp2_with (at_builtin; (refine wpList_append1b w5 rfl (.tmp 18) (.tmp 22) 38 rfl w2.heap.size 9 i0 (.string ByteArray.empty) 16 Tryz.underlying38 hi hz0 hz1 hz2 rfl _ (k + 1) _ hown5 rfl (.string (B gt)) rfl rfl ?h6 ?h7 ?h8 ?_); (case h6 => simp only [maxLen]; omega); (case h7 => omega); (case h8 => have := hbw.size; omega); intro v6 w6 hown6 hb6 hap hat)
      go_roundw
      case rel =>
        refine ⟨k + 1, by omega, by go_num, by rw [T2.out]; exact hown6, hbw.trans hb6, fun g hg => ?_, ?_⟩
        · rcases hat g hg with h | h
          · exact hvf g h
          · omega
        · rw [hap fb (by omega) (fun h => hvf fb h.symm rfl), hb5.block fb hfl]; exact hfbr.out
      case measure => simp [intOf]; omega
    · obtain rfl : k = 6 := by omega
      obtain ⟨va, vc, rfl, hvc, _, hrd⟩ := own_form hown
      have ld : (Lib.join (e.id :: fieldTxts e) [124]).length ≤ 140737488355328 := by
        have := join_len_le (c := 124) (b := 1000) (l := e.id :: fieldTxts e) (fun p hp => by
          rcases List.mem_cons.1 hp with rfl | hp
          · have := SM.id; omega
          · simp only [fieldTxts, List.mem_cons, List.not_mem_nil, or_false] at hp
            rcases hp with rfl | rfl | rfl | rfl | rfl | rfl <;> exact getF_le SM _)
        simp [fieldTxts] at this ⊢; omega
      have J := join_any (e.id :: fieldTxts e) [124] va 7 vc wr hrd hvc (by omega) ld
      rw [← T.out] at J
      clear hown hrd ld
      go_wp2_with fail
      refine J.mono ?_
      rintro en w6 ⟨rfl, hb6⟩
      go_wp2_with fail
      go_ret
      exact ⟨rfl, Below.next (Below.next hb1 hb1r) hb6⟩
end Go.Proofs.YtakainogpokhgaaGreatDoor
