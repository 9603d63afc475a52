/- Walks of package rule: days of a word (a range over strings.SplitSeq). -/
import Derived.Test.YtakainogpokhgaaGreatDoorSplit
import Derived.Test.YtakainogpokhgaaGreatDoorRuleT
import Derived.Test.YtakainogpokhgaaGreatDoorRuleN
namespace Go.Proofs.YtakainogpokhgaaGreatDoor
open Go.RowKit Go.Shelf Lam
attribute [local go_sem] Oper.semAt_some

theorem int_info : (Tryz.prog.info? 3).map (fun i => (i.zero, i.size, i.bytes)) = some (some (.int .i64 0), 1, 8) := by kernel_rfl
/-- which name a word is, as the library tells it -/
theorem nameIdx_lib (x : Str) : Lib.idxOfS (names.map B) (B x) = match nameIdx x with | some k => (k : Int) | none => -1 := by
  have key : ∀ (l : List Str) (i : Nat), Lib.idxFromS (l.map B) (B x) i = match l.idxOf? x with | some k => ((i + k : Nat) : Int) | none => -1 := by
    intro l
    induction l with
    | nil => intro i; rfl
    | cons y r ih =>
      intro i
      rw [List.map_cons]
      unfold Lib.idxFromS
      rw [List.idxOf?_cons]
      by_cases h : y = x
      · subst h; simp
      · have hb : ¬ B y = B x := fun e => h (B_inj e)
        have hb' : ¬ (y == x) = true := by simpa using h
        simp only [hb', Bool.false_eq_true, if_false]
        first
          | rw [if_neg hb]
          | rw [if_neg (by simpa using hb)]
        rw [ih (i + 1)]
        cases r.idxOf? x with
        | none => rfl
        | some k =>
          show (((i + 1) + k : Nat) : Int) = ((i + (k + 1) : Nat) : Int)
          congr 1; omega
  have := key names 0
  unfold Lib.idxOfS nameIdx
  rw [this]
  cases names.idxOf? x <;> simp
structure DaysCells (W : World) (b2 b3 b4 : Nat) (v : Value) : Prop where
  r : W.heap[b2]? = some (.cells #[.slice none 0 0] 22 (0, 0))
  ok : W.heap[b3]? = some (.cells #[.bool false] 4 (0, 0))
  out : W.heap[b4]? = some (.cells #[v] 22 (0, 0))
def DI (w : World) (N : Nat) (pre : List Str) (W : World) : Prop :=
  N + 6 ≤ W.heap.size ∧ ∃ (ds : List Int) (v : Value), daysGo pre = some ds ∧ DaysCells W N (N + 1) (N + 2) v ∧ W.ownsRow (N + 6) 3 1 v ds.length (ds.map (Value.int .i64)) ∧ Below N w W
def DIx (w : World) (N : Nat) (s : Str) (c : Code) (_ : List Str) (W : World) : Prop :=
  c = .ret ∧ daysOf s = none ∧ W.heap[N]? = some (.cells #[.slice none 0 0] 22 (0, 0)) ∧ W.heap[N + 1]? = some (.cells #[.bool false] 4 (0, 0)) ∧ Below N w W
theorem grown_off {C : List Nat} {Bd k : Nat} {W W' : World} {row : Option Nat} (hg : W.grownBy W' row) (hr : ∀ r, row = some r → r ∈ C ∨ (Bd ≤ r ∧ ∃ o : Obj, W.heap[r]? = some o ∧ o.isCells = false))
    {o : Obj} (hk : W.heap[k]? = some o) (hc : o.isCells = true) (hn : k ∉ C) : W'.heap[k]? = some o :=
  grownBy_at hg hk (fun e => by
    rcases hr _ e.symm with h | ⟨_, o', ho, hc'⟩
    · exact hn h
    · rw [hk] at ho; injection ho with ho; subst ho; rw [hc] at hc'; cases hc')
theorem own_off {C : List Nat} {Bd base n : Nat} {e : TypeId} {v : Value} {xs : List Value} {W W' : World} {row : Option Nat} (hg : W.grownBy W' row) (hr : ∀ r, row = some r → r ∈ C ∨ (Bd ≤ r ∧ ∃ o : Obj, W.heap[r]? = some o ∧ o.isCells = false))
    (hC : ∀ c ∈ C, c < base) (h : W.ownsRow base e 1 v n xs) : W'.ownsRow base e 1 v n xs := by
  refine ⟨h.1, ?_⟩
  rcases h.2 with h2 | ⟨g, cap, cur, hv, hb, hh, r⟩
  · exact .inl h2
  · exact .inr ⟨g, cap, cur, hv, hb, grown_off hg hr hh rfl (fun hm => by have := hC g hm; omega), r⟩
theorem below_off {C : List Nat} {Bd N : Nat} {w W W' : World} {row : Option Nat} (hg : W.grownBy W' row) (hr : ∀ r, row = some r → r ∈ C ∨ (Bd ≤ r ∧ ∃ o : Obj, W.heap[r]? = some o ∧ o.isCells = false))
    (hC : ∀ c ∈ C, N ≤ c) (hB : N ≤ Bd) (hN : N ≤ W.heap.size) (h : Below N w W) : Below N w W' :=
  h.grown hg hN (fun k hk => by rcases hr k hk with h | ⟨h, _⟩; exact hC k h; omega)
theorem own_mono {w : World} {b b' : Nat} {e : TypeId} {size n : Nat} {v : Value} {xs : List Value} (h : w.ownsRow b e size v n xs) (hb : b' ≤ b) : w.ownsRow b' e size v n xs := by
  refine ⟨h.1, ?_⟩
  rcases h.2 with h2 | ⟨g, cap, cur, hv, hg, r⟩
  · exact .inl h2
  · exact .inr ⟨g, cap, cur, hv, Nat.le_trans hb hg, r⟩
theorem putObj_off {W : World} {d k : Nat} {o : Obj} (h : k ≠ d) : (W.putObj d o).heap[k]? = W.heap[k]? := World.putObj_heap_other h
theorem DI_steady (w : World) (N : Nat) (hN : N = w.heap.size) : SteadyX [N + 3, N + 4, N + 5] (N + 6) (DI w N) := by
  rintro pre W W' row ⟨h0, ds, v, h1, h2, h3, h4⟩ hg hr
  exact ⟨Nat.le_trans h0 hg.size, ds, v, h1, ⟨grown_off hg hr h2.r rfl (by simp), grown_off hg hr h2.ok rfl (by simp), grown_off hg hr h2.out rfl (by simp)⟩, own_off hg hr (by simp) h3,
    below_off hg hr (by simp) (by omega) (by have := h4.size; omega) h4⟩
theorem DIx_steady (w : World) (N : Nat) (hN : N = w.heap.size) (s : Str) (c : Code) : SteadyX [N + 3, N + 4, N + 5] (N + 6) (DIx w N s c) := by
  rintro pre W W' row ⟨h1, h2, h3, h4, h5⟩ hg hr
  exact ⟨h1, h2, grown_off hg hr h3 rfl (by simp), grown_off hg hr h4 rfl (by simp), below_off hg hr (by simp) (by omega) (by have := h5.size; omega) h5⟩

/-- what days of a word answers -/
def DaysPost (s : Str) (w : World) (e : Ending) (w' : World) : Prop :=
  Below w.heap.size w w' ∧ ((daysOf s = none ∧ e = .returned (.tuple #[.slice none 0 0, .bool false])) ∨
    ∃ l v, daysOf s = some l ∧ e = .returned (.tuple #[v, .bool true]) ∧ w'.ownsRow w.heap.size 3 1 v l.length (l.map (Value.int .i64)))
set_option maxRecDepth 100000 in
theorem days_any (s : ByteArray) (hs : s.size ≤ 8796093022208) (w : World) : Calls Tryz.prog 108 #[.string s] w (DaysPost s.data.toList w) := by
  refine (callsIn_wide (n := 5)).1 ?_
  refine callsIn_of_wp_marks Tryz.func108 rfl trivial ?_ rfl
  simp only [Tryz.ntmps108, List.size_toArray, List.length_cons, List.length_nil, Nat.reduceAdd, Nat.reduceSub, Array.replicate_succ, Array.replicate_zero, List.push_toArray, List.append_toArray, List.nil_append, List.cons_append]
  gi_wp2_with (refine ⟨trivial, ?_⟩; gi_at_call 110; refine (callsIn_wide.2 (splitSeq_any s 44 _)).mono ?_; rintro e w' ⟨rfl, rfl⟩)
  have hit := splitSeq_iter (((w.alloc (.cells #[.slice none 0 0] 22)).alloc (.cells #[.bool false] 4)).alloc (.cells #[.slice none 0 0] 22)) s 44 (by omega)
  have hsz := splitWorld_size (((w.alloc (.cells #[.slice none 0 0] 22)).alloc (.cells #[.bool false] 4)).alloc (.cells #[.slice none 0 0] 22)) s 44
  have hb3 : Below w.heap.size w (((w.alloc (.cells #[.slice none 0 0] 22)).alloc (.cells #[.bool false] 4)).alloc (.cells #[.slice none 0 0] 22)) :=
    (((Below.refl _ _).alloc (Nat.le_refl _) _).alloc (by simp) _).alloc (by simp; omega) _
  have hb4 := splitWorld_below (((w.alloc (.cells #[.slice none 0 0] 22)).alloc (.cells #[.bool false] 4)).alloc (.cells #[.slice none 0 0] 22)) s 44
  have hbl := Below.next hb3 hb4
  have hc0 : (((w.alloc (.cells #[.slice none 0 0] 22)).alloc (.cells #[.bool false] 4)).alloc (.cells #[.slice none 0 0] 22)).heap[w.heap.size]? = some (.cells #[.slice none 0 0] 22 (0, 0)) := by
    rw [Below.heap_alloc _ _ _ (by simp; omega), Below.heap_alloc _ _ _ (by simp)]; exact heap_alloc_new w _
  have hc1 : (((w.alloc (.cells #[.slice none 0 0] 22)).alloc (.cells #[.bool false] 4)).alloc (.cells #[.slice none 0 0] 22)).heap[w.heap.size + 1]? = some (.cells #[.bool false] 4 (0, 0)) := by
    rw [Below.heap_alloc _ _ _ (by simp)]; have := heap_alloc_new (w.alloc (.cells #[.slice none 0 0] 22)) (.cells #[.bool false] 4); simpa using this
  have hc2 : (((w.alloc (.cells #[.slice none 0 0] 22)).alloc (.cells #[.bool false] 4)).alloc (.cells #[.slice none 0 0] 22)).heap[w.heap.size + 2]? = some (.cells #[.slice none 0 0] 22 (0, 0)) := by
    have := heap_alloc_new ((w.alloc (.cells #[.slice none 0 0] 22)).alloc (.cells #[.bool false] 4)) (.cells #[.slice none 0 0] 22); simpa using this
  have hz3 : (((w.alloc (.cells #[.slice none 0 0] 22)).alloc (.cells #[.bool false] 4)).alloc (.cells #[.slice none 0 0] 22)).heap.size = w.heap.size + 3 := by simp
  generalize (((w.alloc (.cells #[.slice none 0 0] 22)).alloc (.cells #[.bool false] 4)).alloc (.cells #[.slice none 0 0] 22)) = w3 at *
  rw [hz3] at hit hsz
  have hcl : DaysCells (splitWorld w3 s 44) w.heap.size (w.heap.size + 1) (w.heap.size + 2) (.slice none 0 0) :=
    ⟨(hb4.block _ (by omega)).trans hc0, (hb4.block _ (by omega)).trans hc1, (hb4.block _ (by omega)).trans hc2⟩
  clear hb3 hb4 hc0 hc1 hc2 hz3
  generalize splitWorld w3 s 44 = W0 at *
  clear w3
  obtain ⟨N, hN⟩ : ∃ N, N = w.heap.size := ⟨_, rfl⟩
  rw [← hN] at hit hsz hcl hbl ⊢
  have hszN : W0.heap.size = N + 6 := by omega
  clear hsz
  have HN := Lib.hid hN
  clear hN
  refine wpIn_iter (gf := 154) (lb := #[.pointer (some ⟨N + 3 + 1, 0, none⟩), .pointer (some ⟨N + 3, 0, none⟩), .pointer (some ⟨N + 3 + 2, 0, none⟩)]) rfl (enters_of Tryz.func154 (by kernel_rfl) rfl)
    hit (by intro c hc; simp at hc; omega) (fun _ => rfl) (DI w N) (DIx w N s.data.toList) (by rw [hszN]; exact DI_steady w N HN.out) (fun c => by rw [hszN]; exact DIx_steady w N HN.out _ c)
    ⟨by omega, [], _, rfl, hcl, World.ownsRow_nil _ _ _ _, hbl⟩
    (fun x => { tmps := #[.string s, undef, .pointer (some ⟨N, 0, none⟩), .pointer (some ⟨N + 1, 0, none⟩), .pointer (some ⟨N + 1 + 1, 0, none⟩), .string (B x), undef, .string s, .func (.func 154) #[] #[.pointer (some ⟨N + 1 + 1 + 1 + 1, 0, none⟩), .pointer (some ⟨N + 1 + 1 + 1, 0, none⟩), .pointer (some ⟨N + 1 + 1 + 1 + 2, 0, none⟩)], .string (B x), undef, undef, undef, undef, undef, undef, undef, undef, undef, undef], defers := [] }) ?assign ?body ?done ?stop
  case assign =>
    intro l x W K hK
    gi_wp2
    exact hK
  case body =>
    rintro l pre x post W hxs ⟨h6, ds, v, hds, hcl, hown, hbw⟩ hl hlC
    have hl' : N + 6 ≤ l := by omega
    have hwz := hbw.size
    have hW6 : N + 6 ≤ W.heap.size := h6
    have hj5 : ∀ j, (W.alloc (.cells nameRow 9)).cell? ⟨W.heap.size, j, none⟩ = nameRow[j]? := fun j => new_cell _ _ _ j
    have hcl5 : DaysCells (W.alloc (.cells nameRow 9)) N (N + 1) (N + 2) v :=
      ⟨(Below.heap_alloc W _ _ (by omega)).trans hcl.r, (Below.heap_alloc W _ _ (by omega)).trans hcl.ok, (Below.heap_alloc W _ _ (by omega)).trans hcl.out⟩
    have hown5 := hown.alloc (.cells nameRow 9)
    have hb5 : Below N w (W.alloc (.cells nameRow 9)) := hbw.alloc (by omega) _
    have hk5 : KeepsOthers W (W.alloc (.cells nameRow 9)) := KeepsOthers.alloc _ _
    have hs5 : SameAt [N + 3, N + 3 + 1, N + 3 + 2] W (W.alloc (.cells nameRow 9)) := SameAt.alloc _ (by intro c hc; simp at hc; omega)
    have hz5 : N + 6 ≤ (W.alloc (.cells nameRow 9)).heap.size := by simp; omega
    have HDS := Lib.hid hds
    have HX := Lib.hid hxs
    clear hds hxs hcl hit hbl hown hbw
    have hnm : ∀ W' : World, (∀ j, W'.cell? ⟨W.heap.size, j, none⟩ = nameRow[j]?) → Calls Tryz.prog 96 #[.slice (some ⟨W.heap.size, 0, none⟩) 7 7, .string (B x)] W' fun e w' => e = .returned (.int .i64 (match nameIdx x with | some k => (k : Int) | none => -1)) ∧ W' = w' := by
      intro W' hj
      refine (Tryz.slices_Index_string W.heap.size 0 7 7 (names.map B) (B x) W' (by simp [names]) (by omega) ?_).mono ?_
      · intro j hj'
        have hj' : j < 7 := hj'
        match j, hj' with
        | 0, _ | 1, _ | 2, _ | 3, _ | 4, _ | 5, _ | 6, _ => rw [hj]; rfl
      · rintro e w' ⟨rfl, rfl⟩
        exact ⟨ret_int (by rw [← nameIdx_lib]; rfl), rfl⟩
    have HNM := Lib.hid (hnm _ hj5)
    have NM := Lib.hid (names_any W)
    clear hnm hj5
    cases hk : nameIdx x with
    | none =>
      rw [hk] at HNM
      have hbad : daysOf s.data.toList = none := by unfold daysOf; rw [HX.out]; exact daysGo_bad hk
      have BAD := Lib.hid hbad
      clear hbad hk
      gi_wp2_with fail
      refine ⟨trivial, ?_⟩
      refine (CallsIn.inRound l (callsIn_wide.2 NM.out)).mono ?_
      rintro e w' ⟨rfl, rfl⟩
      generalize W.alloc (.cells nameRow 9) = W5 at *
      have r2 := blk_cell hcl5.r
      have r3 := blk_cell hcl5.ok
      have f2 := blk_frozen hcl5.r
      have f3 := blk_frozen hcl5.ok
      have S1 := blk_set (u := .slice none 0 0) hcl5.r
      have S2 : (W5.setCell ⟨N, 0, none⟩ (.slice none 0 0)).heap[N + 1]? = some (.cells #[.bool false] 4 (0, 0)) := (Below.heap_setCell _ _ _ _ (by simp)).trans hcl5.ok
      have g3 := blk_cell S2
      have h3 := blk_frozen S2
      have T1 := (Below.heap_setCell (W5.setCell ⟨N, 0, none⟩ (.slice none 0 0)) ⟨N + 1, 0, none⟩ (.bool false) N (by simp)).trans S1
      have T2 := blk_set (u := .bool false) S2
      have BB := (hb5.setCell (p := ⟨N, 0, none⟩) (by simp) (.slice none 0 0)).setCell (p := ⟨N + 1, 0, none⟩) (by simp) (.bool false)
      have KK := (hk5.trans (KeepsOthers.setCell W5 ⟨N, 0, none⟩ (.slice none 0 0))).trans (KeepsOthers.setCell _ ⟨N + 1, 0, none⟩ (.bool false))
      have FIN := Lib.hid (And.intro T1 (And.intro T2 (And.intro BB KK)))
      clear S1 S2 T1 T2 BB KK hb5 hk5 hs5 hown5 hcl5
      gi_wp2_with fail
      refine ⟨trivial, ?_⟩
      refine (CallsIn.inRound l (callsIn_wide.2 HNM.out)).mono ?_
      rintro e w' ⟨rfl, rfl⟩
      gi_wp2
      obtain ⟨T1, T2, BB, KK⟩ := FIN.out
      exact ⟨KK.from _, rfl, BAD.out, T1, T2, BB⟩
    | some k =>
      rw [hk] at HNM
      have SN := Lib.hid (daysGo_snoc HDS.out hk)
      have hlen : ds.length ≤ s.size := by
        have h1 := daysGo_length HDS.out
        have h2 := cuts_count 44 s.data.toList
        rw [HX.out, len_data] at h2
        simp at h2; omega
      obtain ⟨i0, hi, hz0, hz1, hz2⟩ := info_parts int_info
      clear hk
      gi_wp2_with fail
      refine ⟨trivial, ?_⟩
      refine (CallsIn.inRound l (callsIn_wide.2 NM.out)).mono ?_
      rintro e w' ⟨rfl, rfl⟩
      generalize W.alloc (.cells nameRow 9) = W5 at *
      have r4 := blk_cell hcl5.out
      have CL5 := Lib.hid hcl5
      clear hcl5
      gi_wp2_with fail
      refine ⟨trivial, ?_⟩
      refine (CallsIn.inRound l (callsIn_wide.2 HNM.out)).mono ?_
      rintro e w' ⟨rfl, rfl⟩
      gi_wp2_with (gi_at_builtin; refine wpListIn_append1 W5 rfl (.tmp 15) (.tmp 17) 22 rfl (N + 6) 3 i0 (.int .i64 0) 8 Tryz.underlying22 hi hz0 hz1 hz2 rfl _ ds.length _ hown5 rfl (.int .i64 (k : Int)) rfl rfl ?h6 ?h7 ?h8 ?_; (case h6 => simp only [maxLen]; omega); (case h7 => omega); (case h8 => exact hz5); intro v6 w6 hown6 hb6 hk6; obtain ⟨a6, c6, rfl, _, _, _⟩ := own_form hown6; have o6 := (hb6.block (N + 2) (by omega)).trans CL5.out.out; have q6 := blk_cell o6; have p6 := blk_frozen o6)
      have c5 := CL5.out
      have R6 := (Below.heap_setCell w6 ⟨N + 2, 0, none⟩ (.slice a6 (ds.length + 1) c6) N (by simp)).trans ((hb6.block N (by omega)).trans c5.r)
      have K6 := (Below.heap_setCell w6 ⟨N + 2, 0, none⟩ (.slice a6 (ds.length + 1) c6) (N + 1) (by simp)).trans ((hb6.block (N + 1) (by omega)).trans c5.ok)
      have O6 := blk_set (u := .slice a6 (ds.length + 1) c6) o6
      have W6 := ownsRow_setCell_below hown6 (a := ⟨N + 2, 0, none⟩) (by simp) (.slice a6 (ds.length + 1) c6)
      have B6 : Below N w (w6.setCell ⟨N + 2, 0, none⟩ (.slice a6 (ds.length + 1) c6)) := (hb5.trans (hb6.mono (by omega))).setCell (p := ⟨N + 2, 0, none⟩) (by simp) _
      have KK6 := (hk5.trans hk6).trans (KeepsOthers.setCell w6 ⟨N + 2, 0, none⟩ (.slice a6 (ds.length + 1) c6))
      have SS6 : SameAt [N + 3, N + 3 + 1, N + 3 + 2] W (w6.setCell ⟨N + 2, 0, none⟩ (.slice a6 (ds.length + 1) c6)) :=
        (hs5.trans (SameAt.below hb6 (by intro c hc; simp at hc; omega))).trans ⟨by simp [World.setCell], fun c hc => Below.heap_setCell _ _ _ _ (by simp at hc ⊢; omega)⟩
      have Z6 : N + 6 ≤ (w6.setCell ⟨N + 2, 0, none⟩ (.slice a6 (ds.length + 1) c6)).heap.size := by have := hb6.size; simp [World.setCell]; omega
      have FIN := Lib.hid (And.intro R6 (And.intro K6 (And.intro O6 (And.intro W6 (And.intro B6 (And.intro KK6 (And.intro SS6 Z6)))))))
      clear R6 K6 O6 W6 B6 KK6 SS6 Z6 c5
      gi_wp2
      obtain ⟨R6, K6, O6, W6, B6, KK6, SS6, Z6⟩ := FIN.out
      exact ⟨KK6.from _, SS6, Z6, ds ++ [(k : Int)], _, SN.out, ⟨R6, K6, O6⟩, by simpa using W6, B6⟩
  case done =>
    rintro D W hD ⟨h6, ds, v, hds, hcl, hown, hbw⟩ hK
    have cr := blk_cell hcl.r
    have ck := blk_cell hcl.ok
    have co := blk_cell hcl.out
    have fr := blk_frozen hcl.r
    have fk := blk_frozen hcl.ok
    have HD := Lib.hid hds
    have HC := Lib.hid hcl
    have HK := Lib.hid hK
    obtain ⟨a6, c6, rfl, _, _, _⟩ := own_form hown
    clear hds hcl hK hit hbl
    gi_wp2
    have hc := HC.out
    have hN := HN.out
    have q1 := (Below.heap_setCell (W.setCell ⟨N, 0, none⟩ (.slice a6 ds.length c6)) ⟨N + 1, 0, none⟩ (.bool true) N (by simp)).trans (blk_set (u := .slice a6 ds.length c6) hc.r)
    have q2 := blk_set (u := .bool true) ((Below.heap_setCell W ⟨N, 0, none⟩ (.slice a6 ds.length c6) (N + 1) (by simp)).trans hc.ok)
    have hK2 := (Below.heap_setCell (W.setCell ⟨N, 0, none⟩ (.slice a6 ds.length c6)) ⟨N + 1, 0, none⟩ (.bool true) D (by simp; omega)).trans ((Below.heap_setCell W ⟨N, 0, none⟩ (.slice a6 ds.length c6) D (by simp; omega)).trans HK.out)
    have hb2 : Below N w ((W.setCell ⟨N, 0, none⟩ (.slice a6 ds.length c6)).setCell ⟨N + 1, 0, none⟩ (.bool true)) := (hbw.setCell (p := ⟨N, 0, none⟩) (Nat.le_refl _) _).setCell (p := ⟨N + 1, 0, none⟩) (Nat.le_succ _) _
    have ho2 := ownsRow_setCell_below (ownsRow_setCell_below hown (a := ⟨N, 0, none⟩) (by show N < N + 6; omega) (.slice a6 ds.length c6)) (a := ⟨N + 1, 0, none⟩) (by show N + 1 < N + 6; omega) (.bool true)
    generalize (W.setCell ⟨N, 0, none⟩ (.slice a6 ds.length c6)).setCell ⟨N + 1, 0, none⟩ (.bool true) = W2 at *
    have x1 := blk_cell ((putObj_off (W := W2) (d := D) (k := N) (o := .deferred none) (by omega)).trans q1)
    have x2 := blk_cell ((putObj_off (W := W2) (d := D) (k := N + 1) (o := .deferred none) (by omega)).trans q2)
    refine ⟨by simp, .inl ⟨_, _, rfl, run_takeDeferred hK2, ?_⟩⟩
    refine ⟨.tuple #[.slice a6 ds.length c6, .bool true], by simp [results, Tryz.results108, go_sem, x1, x2], ?_, .inr ⟨ds, _, HD.out, rfl, ?_⟩⟩
    · rw [← hN]; exact hb2.grown (grownBy_putObj' W2 D _) (by have := hb2.size; omega) (fun k hk => by injection hk with hk; omega)
    · rw [← hN]; exact own_mono (ownsRow_putObj ho2 _ hK2 rfl) (by omega)
  case stop =>
    rintro D c pre W hD ⟨rfl, hno, hr, hok, hbw⟩ hK
    have HK := Lib.hid hK
    have R := Lib.hid hr
    have O := Lib.hid hok
    clear hK hr hok hit hbl hcl
    gi_wp2
    have hN := HN.out
    have hK2 := HK.out
    have x1 := blk_cell ((putObj_off (W := W) (d := D) (k := N) (o := .deferred none) (by omega)).trans R.out)
    have x2 := blk_cell ((putObj_off (W := W) (d := D) (k := N + 1) (o := .deferred none) (by omega)).trans O.out)
    refine ⟨by simp, .inl ⟨_, _, rfl, run_takeDeferred hK2, ?_⟩⟩
    refine ⟨.tuple #[.slice none 0 0, .bool false], by simp [results, Tryz.results108, go_sem, x1, x2], ?_, .inl ⟨hno, rfl⟩⟩
    rw [← hN]; exact hbw.grown (grownBy_putObj' W D _) (by have := hbw.size; omega) (fun k hk => by injection hk with hk; omega)
end Go.Proofs.YtakainogpokhgaaGreatDoor
