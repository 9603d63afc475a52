/- Walks of package event: skips of a text. -/
import Derived.Test.YtakainogpokhgaaGreatDoorEvX
namespace Go.Proofs.YtakainogpokhgaaGreatDoor
open Go.RowKit Go.Shelf Lam
attribute [local go_sem] Oper.semAt_some

theorem skipsGo_snoc : ∀ {l : List Str} {ds : List Int} {w : Str} {d : Int}, skipsGo l = .ok ds → dayRead w = .ok d → skipsGo (l ++ [w]) = .ok (ds ++ [d])
  | [], ds, w, d, h, hw => by unfold skipsGo at h; injection h with h; subst h; simp [skipsGo, hw]
  | x :: r, ds, w, d, h, hw => by
    unfold skipsGo at h
    cases hx : dayRead x with
    | err c => rw [hx] at h; cases h
    | ok j =>
      rw [hx] at h; simp only at h
      cases hr : skipsGo r with
      | err c => rw [hr] at h; cases h
      | ok l =>
        rw [hr] at h; injection h with h; subst h
        have ih := skipsGo_snoc hr hw
        simp only [List.cons_append, skipsGo, hx, ih]
theorem skipsGo_bad : ∀ {l : List Str} {ds : List Int} {w : Str} {r : List Str} {c : Nat}, skipsGo l = .ok ds → dayRead w = .err c → skipsGo (l ++ w :: r) = .err c
  | [], ds, w, r, c, _, hw => by simp [skipsGo, hw]
  | x :: l, ds, w, r, c, h, hw => by
    unfold skipsGo at h
    cases hx : dayRead x with
    | err c => rw [hx] at h; cases h
    | ok j =>
      rw [hx] at h; simp only at h
      cases hr : skipsGo l with
      | err c => rw [hr] at h; cases h
      | ok l =>
        have ih := skipsGo_bad (r := r) hr hw
        simp only [List.cons_append, skipsGo, hx, ih]
theorem skipsGo_length : ∀ {l : List Str} {ds : List Int}, skipsGo l = .ok ds → ds.length = l.length
  | [], ds, h => by unfold skipsGo at h; injection h with h; subst h; rfl
  | x :: r, ds, h => by
    unfold skipsGo at h
    cases hx : dayRead x with
    | err c => rw [hx] at h; cases h
    | ok j =>
      rw [hx] at h; simp only at h
      cases hr : skipsGo r with
      | err c => rw [hr] at h; cases h
      | ok l => rw [hr] at h; injection h with h; subst h; simp [skipsGo_length hr]
structure SkCells (W : World) (b2 b3 b4 : Nat) (v : Value) : Prop where
  r : W.heap[b2]? = some (.cells #[.slice none 0 0] 22 (0, 0))
  er : W.heap[b3]? = some (.cells #[.nilIface] 32 (0, 0))
  out : W.heap[b4]? = some (.cells #[v] 22 (0, 0))
def SI (w : World) (N : Nat) (pre : List Str) (W : World) : Prop :=
  N + 6 ≤ W.heap.size ∧ ∃ (ds : List Int) (v : Value), skipsGo pre = .ok ds ∧ SkCells W N (N + 1) (N + 2) v ∧ W.ownsRow (N + 6) 3 1 v ds.length (ds.map (Value.int .i64)) ∧ Below N w W
def SIx (A : Nat → Addr) (w : World) (N : Nat) (s : Str) (c : Code) (_ : List Str) (W : World) : Prop :=
  c = .ret ∧ ∃ k, k ≠ 0 ∧ readSkips s = .err k ∧ W.heap[N]? = some (.cells #[.slice none 0 0] 22 (0, 0)) ∧ W.heap[N + 1]? = some (.cells #[Er (A k)] 32 (0, 0)) ∧ Below N w W
theorem SI_steady (w : World) (N : Nat) (hN : N = w.heap.size) : SteadyX [N + 3, N + 4, N + 5] (N + 6) (SI w N) := by
  rintro pre W W' row ⟨h0, ds, v, h1, h2, h3, h4⟩ hg hr
  exact ⟨Nat.le_trans h0 hg.size, ds, v, h1, ⟨grown_off hg hr h2.r rfl (by simp), grown_off hg hr h2.er rfl (by simp), grown_off hg hr h2.out rfl (by simp)⟩, own_off hg hr (by simp) h3,
    below_off hg hr (by simp) (by omega) (by have := h4.size; omega) h4⟩
theorem SIx_steady (A : Nat → Addr) (w : World) (N : Nat) (hN : N = w.heap.size) (s : Str) (c : Code) : SteadyX [N + 3, N + 4, N + 5] (N + 6) (SIx A w N s c) := by
  rintro pre W W' row ⟨h1, k, h0, h2, h3, h4, h5⟩ hg hr
  exact ⟨h1, k, h0, h2, grown_off hg hr h3 rfl (by simp), grown_off hg hr h4 rfl (by simp), below_off hg hr (by simp) (by omega) (by have := h5.size; omega) h5⟩
/-- what reading skips answers -/
def SkPost (A : Nat → Addr) (t : Got (List Int)) (w : World) (e : Ending) (w' : World) : Prop :=
  Below w.heap.size w w' ∧ match t with
  | .ok l => ∃ v, e = .returned (.tuple #[v, .nilIface]) ∧ w'.ownsRow w.heap.size 3 1 v l.length (l.map (Value.int .i64))
  | .err c => c ≠ 0 ∧ e = .returned (.tuple #[.slice none 0 0, Er (A c)])
set_option maxRecDepth 100000 in set_option maxHeartbeats 2000000 in
theorem readSkips_any (s : ByteArray) (hs : s.size ≤ 8796093022208) (w : World) {S : Nat → Bool} {A : Nat → Addr} (E : Env S w A) (h1 : S 1 = true) (h2 : S 2 = true) :
    Calls Tryz.prog 71 #[.string s] w (SkPost A (readSkips s.data.toList) w) := by
  by_cases he : s.data.toList = []
  case pos =>
    have T : readSkips s.data.toList = .ok [] := by unfold readSkips; rw [if_pos he]
    rw [T]
    have e1 : s.toList = [] := by rw [Lib.toList_data]; exact he
    clear T he E
    go_enter Tryz.func71, Tryz.ntmps71
    go_wp2_with fail
    have q0 : ((w.alloc (.cells #[.slice none 0 0] 22)).alloc (.cells #[.nilIface] 32)).cell? ⟨w.heap.size, 0, none⟩ = some (.slice none 0 0) :=
      (Below.cells ((Below.refl _ _).alloc (Nat.le_refl _) _) (new_cell w _ _ 0 : _ = some (Value.slice none 0 0)))
    have q1 : ((w.alloc (.cells #[.slice none 0 0] 22)).alloc (.cells #[.nilIface] 32)).cell? ⟨w.heap.size + 1, 0, none⟩ = some .nilIface := by
      simp
    have hb : Below w.heap.size w ((w.alloc (.cells #[.slice none 0 0] 22)).alloc (.cells #[.nilIface] 32)) := ((Below.refl _ _).alloc (Nat.le_refl _) _).alloc (by simp) _
    generalize (w.alloc (.cells #[.slice none 0 0] 22)).alloc (.cells #[.nilIface] 32) = W at *
    refine bodyPost_ret (v := .tuple #[.slice none 0 0, .nilIface]) ?_ rfl ⟨hb, .slice none 0 0, rfl, World.ownsRow_nil _ _ _ _⟩
    simp [results, Tryz.results71, go_sem, q0, q1]
  case neg =>
  have hsn : (s.toList == []) = false := by rw [beq_eq_false_iff_ne, Lib.toList_data]; exact he
  have hsn2 : ¬ s.toList = [] := by rw [Lib.toList_data]; exact he
  have RS : readSkips s.data.toList = skipsGo (cuts 44 s.data.toList) := by unfold readSkips; rw [if_neg he]
  clear he
  refine (callsIn_wide (n := 5)).1 ?_
  refine callsIn_of_wp_marks Tryz.func71 rfl trivial ?_ rfl
  simp only [Tryz.ntmps71, List.size_toArray, List.length_cons, List.length_nil, Nat.reduceAdd, Nat.reduceSub, Array.replicate_succ, Array.replicate_zero, List.push_toArray, List.append_toArray, List.nil_append, List.cons_append]
  gi_wp2_with (refine ⟨trivial, ?_⟩; gi_at_call 110; refine (callsIn_wide.2 (splitSeq_any s 44 _)).mono ?_; rintro e w' ⟨rfl, rfl⟩)
  have hit := splitSeq_iter (((w.alloc (.cells #[.slice none 0 0] 22)).alloc (.cells #[.nilIface] 32)).alloc (.cells #[.slice none 0 0] 22)) s 44 (by omega)
  have hsz := splitWorld_size (((w.alloc (.cells #[.slice none 0 0] 22)).alloc (.cells #[.nilIface] 32)).alloc (.cells #[.slice none 0 0] 22)) s 44
  have hb3 : Below w.heap.size w (((w.alloc (.cells #[.slice none 0 0] 22)).alloc (.cells #[.nilIface] 32)).alloc (.cells #[.slice none 0 0] 22)) :=
    (((Below.refl _ _).alloc (Nat.le_refl _) _).alloc (by simp) _).alloc (by simp; omega) _
  have hb4 := splitWorld_below (((w.alloc (.cells #[.slice none 0 0] 22)).alloc (.cells #[.nilIface] 32)).alloc (.cells #[.slice none 0 0] 22)) s 44
  have hbl := Below.next hb3 hb4
  have hc0 : (((w.alloc (.cells #[.slice none 0 0] 22)).alloc (.cells #[.nilIface] 32)).alloc (.cells #[.slice none 0 0] 22)).heap[w.heap.size]? = some (.cells #[.slice none 0 0] 22 (0, 0)) := by
    rw [Below.heap_alloc _ _ _ (by simp; omega), Below.heap_alloc _ _ _ (by simp)]; exact heap_alloc_new w _
  have hc1 : (((w.alloc (.cells #[.slice none 0 0] 22)).alloc (.cells #[.nilIface] 32)).alloc (.cells #[.slice none 0 0] 22)).heap[w.heap.size + 1]? = some (.cells #[.nilIface] 32 (0, 0)) := by
    rw [Below.heap_alloc _ _ _ (by simp)]; have := heap_alloc_new (w.alloc (.cells #[.slice none 0 0] 22)) (.cells #[.nilIface] 32); simpa using this
  have hc2 : (((w.alloc (.cells #[.slice none 0 0] 22)).alloc (.cells #[.nilIface] 32)).alloc (.cells #[.slice none 0 0] 22)).heap[w.heap.size + 2]? = some (.cells #[.slice none 0 0] 22 (0, 0)) := by
    have := heap_alloc_new ((w.alloc (.cells #[.slice none 0 0] 22)).alloc (.cells #[.nilIface] 32)) (.cells #[.slice none 0 0] 22); simpa using this
  have hz3 : (((w.alloc (.cells #[.slice none 0 0] 22)).alloc (.cells #[.nilIface] 32)).alloc (.cells #[.slice none 0 0] 22)).heap.size = w.heap.size + 3 := by simp
  generalize (((w.alloc (.cells #[.slice none 0 0] 22)).alloc (.cells #[.nilIface] 32)).alloc (.cells #[.slice none 0 0] 22)) = w3 at *
  rw [hz3] at hit hsz
  have hcl : SkCells (splitWorld w3 s 44) w.heap.size (w.heap.size + 1) (w.heap.size + 2) (.slice none 0 0) :=
    ⟨(hb4.block _ (by omega)).trans hc0, (hb4.block _ (by omega)).trans hc1, (hb4.block _ (by omega)).trans hc2⟩
  clear hb3 hb4 hc0 hc1 hc2 hz3
  generalize splitWorld w3 s 44 = W0 at *
  clear w3
  obtain ⟨N, hN⟩ : ∃ N, N = w.heap.size := ⟨_, rfl⟩
  rw [← hN] at hit hsz hcl hbl ⊢
  have hszN : W0.heap.size = N + 6 := by omega
  clear hsz
  have HN := Lib.hid hN
  have HRS := Lib.hid RS
  clear hN RS
  refine wpIn_iter (gf := 154) (lb := #[.pointer (some ⟨N + 3 + 1, 0, none⟩), .pointer (some ⟨N + 3, 0, none⟩), .pointer (some ⟨N + 3 + 2, 0, none⟩)]) rfl (enters_of Tryz.func154 (by kernel_rfl) rfl)
    hit (by intro c hc; simp at hc; omega) (fun _ => rfl) (SI w N) (SIx A w N s.data.toList) (by rw [hszN]; exact SI_steady w N HN.out) (fun c => by rw [hszN]; exact SIx_steady A w N HN.out _ c)
    ⟨by omega, [], _, rfl, hcl, World.ownsRow_nil _ _ _ _, hbl⟩
    (fun x => { tmps := #[.string s, undef, .pointer (some ⟨N, 0, none⟩), .pointer (some ⟨N + 1, 0, none⟩), .pointer (some ⟨N + 1 + 1, 0, none⟩), .string (B x), undef, undef, .string s, .bool false, .string s, .func (.func 154) #[] #[.pointer (some ⟨N + 1 + 1 + 1 + 1, 0, none⟩), .pointer (some ⟨N + 1 + 1 + 1, 0, none⟩), .pointer (some ⟨N + 1 + 1 + 1 + 2, 0, none⟩)], .string (B x), undef, undef, undef, undef, undef, undef, undef, undef, undef, undef, undef, undef, undef], defers := [] }) ?assign ?body ?done ?stop
  case assign =>
    intro l x W K hK
    gi_wp2
    exact hK
  case body =>
    rintro l pre x post W hxs ⟨h6, ds, v, hds, hcl, hown, hbw⟩ hl hlC
    have hl' : N + 6 ≤ l := by omega
    have hwz := hbw.size
    have hW6 : N + 6 ≤ W.heap.size := h6
    have hbw0 : Below w.heap.size w W := by rw [← HN.out]; exact hbw
    have DR := dayRead_any (B x) W (E.up hbw0) h1 h2
    rw [show (B x).data.toList = x by simp] at DR
    have HDS := Lib.hid hds
    have HX := Lib.hid hxs
    clear hds hxs hit hbl hbw0
    cases hk : dayRead x with
    | err c =>
      rw [hk] at DR
      have hbad : readSkips s.data.toList = .err c := by rw [HRS.out, HX.out]; exact skipsGo_bad HDS.out hk
      have BAD := Lib.hid hbad
      have CP := Lib.hid (dayRead_pos hk)
      have DRH := Lib.hid DR
      clear hbad hk DR
      gi_wp2_with fail
      refine ⟨trivial, ?_⟩
      refine (CallsIn.inRound l (callsIn_wide.2 DRH.out)).mono ?_
      rintro e w' ⟨rfl, m, rfl⟩
      dsimp only [gotI]
      have hb5 : Below N w (W.drewN m) := below_drewN hbw m
      have hcl5 : SkCells (W.drewN m) N (N + 1) (N + 2) v := ⟨hcl.r, hcl.er, hcl.out⟩
      have hk5 : KeepsOthers W (W.drewN m) := ⟨Nat.le_refl _, fun _ _ h _ => h⟩
      generalize W.drewN m = W5 at *
      have r2 := blk_cell hcl5.r
      have r3 := blk_cell hcl5.er
      have f2 := blk_frozen hcl5.r
      have f3 := blk_frozen hcl5.er
      have S1 := blk_set (u := .slice none 0 0) hcl5.r
      have S2 : (W5.setCell ⟨N, 0, none⟩ (.slice none 0 0)).heap[N + 1]? = some (.cells #[.nilIface] 32 (0, 0)) := (Below.heap_setCell _ _ _ _ (by simp)).trans hcl5.er
      have g3 := blk_cell S2
      have k3 := blk_frozen S2
      have T1 := (Below.heap_setCell (W5.setCell ⟨N, 0, none⟩ (.slice none 0 0)) ⟨N + 1, 0, none⟩ (Er (A c)) N (by simp)).trans S1
      have T2 := blk_set (u := Er (A c)) S2
      have BB := (hb5.setCell (p := ⟨N, 0, none⟩) (by simp) (.slice none 0 0)).setCell (p := ⟨N + 1, 0, none⟩) (by simp) (Er (A c))
      have KK := (hk5.trans (KeepsOthers.setCell W5 ⟨N, 0, none⟩ (.slice none 0 0))).trans (KeepsOthers.setCell _ ⟨N + 1, 0, none⟩ (Er (A c)))
      have FIN := Lib.hid (And.intro T1 (And.intro T2 (And.intro BB KK)))
      clear S1 S2 T1 T2 BB KK hb5 hk5 hown hcl5 hcl
      gi_wp2
      obtain ⟨T1, T2, BB, KK⟩ := FIN.out
      exact ⟨KK.from _, rfl, c, CP.out, BAD.out, T1, T2, BB⟩
    | ok d =>
      rw [hk] at DR
      have SN := Lib.hid (skipsGo_snoc HDS.out hk)
      have hlen : ds.length ≤ s.size := by
        have h1 := skipsGo_length HDS.out
        have h2 := cuts_count 44 s.data.toList
        rw [HX.out, len_data] at h2
        simp at h2; omega
      obtain ⟨i0, hi, hz0, hz1, hz2⟩ := info_parts int_info
      have DRH := Lib.hid DR
      clear hk DR
      gi_wp2_with fail
      refine ⟨trivial, ?_⟩
      refine (CallsIn.inRound l (callsIn_wide.2 DRH.out)).mono ?_
      rintro e w' ⟨rfl, m, rfl⟩
      dsimp only [gotI]
      have hb5 : Below N w (W.drewN m) := below_drewN hbw m
      have hcl5 : SkCells (W.drewN m) N (N + 1) (N + 2) v := ⟨hcl.r, hcl.er, hcl.out⟩
      have hk5 : KeepsOthers W (W.drewN m) := ⟨Nat.le_refl _, fun _ _ h _ => h⟩
      have hs5 : SameAt [N + 3, N + 3 + 1, N + 3 + 2] W (W.drewN m) := SameAt.refl _ _
      have hown5 := own_up hown (Below.draws W m)
      have hz5 : N + 6 ≤ (W.drewN m).heap.size := hW6
      clear hown hcl hbw
      generalize W.drewN m = W5 at *
      have r4 := blk_cell hcl5.out
      have CL5 := Lib.hid hcl5
      clear hcl5
      gi_wp2_with (gi_at_builtin; refine wpListIn_append1 W5 rfl (.tmp 21) (.tmp 23) 22 rfl (N + 6) 3 i0 (.int .i64 0) 8 Tryz.underlying22 hi hz0 hz1 hz2 rfl _ ds.length _ hown5 rfl (.int .i64 d) rfl rfl ?h6 ?h7 ?h8 ?_; (case h6 => simp only [maxLen]; omega); (case h7 => omega); (case h8 => exact hz5); intro v6 w6 hown6 hb6 hk6; obtain ⟨a6, c6, rfl, _, _, _⟩ := own_form hown6; have o6 := (hb6.block (N + 2) (by omega)).trans CL5.out.out; have q6 := blk_cell o6; have p6 := blk_frozen o6)
      have c5 := CL5.out
      have R6 := (Below.heap_setCell w6 ⟨N + 2, 0, none⟩ (.slice a6 (ds.length + 1) c6) N (by simp)).trans ((hb6.block N (by omega)).trans c5.r)
      have K6 := (Below.heap_setCell w6 ⟨N + 2, 0, none⟩ (.slice a6 (ds.length + 1) c6) (N + 1) (by simp)).trans ((hb6.block (N + 1) (by omega)).trans c5.er)
      have O6 := blk_set (u := .slice a6 (ds.length + 1) c6) o6
      have W6 := ownsRow_setCell_below hown6 (a := ⟨N + 2, 0, none⟩) (by simp) (.slice a6 (ds.length + 1) c6)
      have B6 : Below N w (w6.setCell ⟨N + 2, 0, none⟩ (.slice a6 (ds.length + 1) c6)) := (hb5.trans (hb6.mono (by omega))).setCell (p := ⟨N + 2, 0, none⟩) (by simp) _
      have KK6 := (hk5.trans hk6).trans (KeepsOthers.setCell w6 ⟨N + 2, 0, none⟩ (.slice a6 (ds.length + 1) c6))
      have SS6 : SameAt [N + 3, N + 3 + 1, N + 3 + 2] W (w6.setCell ⟨N + 2, 0, none⟩ (.slice a6 (ds.length + 1) c6)) :=
        (hs5.trans (SameAt.below hb6 (by intro c hc; simp at hc; omega))).trans ⟨by simp [World.setCell], fun c hc => Below.heap_setCell _ _ _ _ (by simp at hc ⊢; omega)⟩
      have Z6 : N + 6 ≤ (w6.setCell ⟨N + 2, 0, none⟩ (.slice a6 (ds.length + 1) c6)).heap.size := by have := hb6.size; simp [World.setCell]; omega
      have FIN := Lib.hid (And.intro R6 (And.intro K6 (And.intro O6 (And.intro W6 (And.intro B6 (And.intro KK6 (And.intro SS6 Z6)))))))
      clear R6 K6 O6 W6 B6 KK6 SS6 Z6 c5
      gi_wp2
      obtain ⟨R6, K6, O6, W6, B6, KK6, SS6, Z6⟩ := FIN.out
      exact ⟨KK6.from _, SS6, Z6, ds ++ [d], _, SN.out, ⟨R6, K6, O6⟩, by simpa using W6, B6⟩
  case done =>
    rintro D W hD ⟨h6, ds, v, hds, hcl, hown, hbw⟩ hK
    have cr := blk_cell hcl.r
    have ck := blk_cell hcl.er
    have co := blk_cell hcl.out
    have fr := blk_frozen hcl.r
    have fk := blk_frozen hcl.er
    have HD := Lib.hid hds
    have HC := Lib.hid hcl
    have HK := Lib.hid hK
    obtain ⟨a6, c6, rfl, _, _, _⟩ := own_form hown
    clear hds hcl hK hit hbl
    gi_wp2
    have hc := HC.out
    have hN := HN.out
    have q1 := (Below.heap_setCell (W.setCell ⟨N, 0, none⟩ (.slice a6 ds.length c6)) ⟨N + 1, 0, none⟩ .nilIface N (by simp)).trans (blk_set (u := .slice a6 ds.length c6) hc.r)
    have q2 := blk_set (u := .nilIface) ((Below.heap_setCell W ⟨N, 0, none⟩ (.slice a6 ds.length c6) (N + 1) (by simp)).trans hc.er)
    have hK2 := (Below.heap_setCell (W.setCell ⟨N, 0, none⟩ (.slice a6 ds.length c6)) ⟨N + 1, 0, none⟩ .nilIface D (by simp; omega)).trans ((Below.heap_setCell W ⟨N, 0, none⟩ (.slice a6 ds.length c6) D (by simp; omega)).trans HK.out)
    have hb2 : Below N w ((W.setCell ⟨N, 0, none⟩ (.slice a6 ds.length c6)).setCell ⟨N + 1, 0, none⟩ .nilIface) := (hbw.setCell (p := ⟨N, 0, none⟩) (Nat.le_refl _) _).setCell (p := ⟨N + 1, 0, none⟩) (Nat.le_succ _) _
    have ho2 := ownsRow_setCell_below (ownsRow_setCell_below hown (a := ⟨N, 0, none⟩) (by show N < N + 6; omega) (.slice a6 ds.length c6)) (a := ⟨N + 1, 0, none⟩) (by show N + 1 < N + 6; omega) .nilIface
    generalize (W.setCell ⟨N, 0, none⟩ (.slice a6 ds.length c6)).setCell ⟨N + 1, 0, none⟩ .nilIface = W2 at *
    have x1 := blk_cell ((putObj_off (W := W2) (d := D) (k := N) (o := .deferred none) (by omega)).trans q1)
    have x2 := blk_cell ((putObj_off (W := W2) (d := D) (k := N + 1) (o := .deferred none) (by omega)).trans q2)
    refine ⟨by simp, .inl ⟨_, _, rfl, run_takeDeferred hK2, ?_⟩⟩
    refine ⟨.tuple #[.slice a6 ds.length c6, .nilIface], by simp [results, Tryz.results71, go_sem, x1, x2], ?_, ?_⟩
    · rw [← hN]; exact hb2.grown (grownBy_putObj' W2 D _) (by have := hb2.size; omega) (fun k hk => by injection hk with hk; omega)
    · rw [HRS.out, HD.out]
      refine ⟨_, rfl, ?_⟩
      rw [← hN]; exact own_mono (ownsRow_putObj ho2 _ hK2 rfl) (by omega)
  case stop =>
    rintro D c pre W hD ⟨rfl, k, hk0, hno, hr, hok, hbw⟩ hK
    have HK := Lib.hid hK
    have R := Lib.hid hr
    have O := Lib.hid hok
    have NO := Lib.hid hno
    have K0 := Lib.hid hk0
    clear hK hr hok hit hbl hno hk0
    gi_wp2
    have hN := HN.out
    have hK2 := HK.out
    have x1 := blk_cell ((putObj_off (W := W) (d := D) (k := N) (o := .deferred none) (by omega)).trans R.out)
    have x2 := blk_cell ((putObj_off (W := W) (d := D) (k := N + 1) (o := .deferred none) (by omega)).trans O.out)
    refine ⟨by simp, .inl ⟨_, _, rfl, run_takeDeferred hK2, ?_⟩⟩
    refine ⟨.tuple #[.slice none 0 0, Er (A k)], by simp [results, Tryz.results71, go_sem, x1, x2], ?_, ?_⟩
    · rw [← hN]; exact hbw.grown (grownBy_putObj' W D _) (by have := hbw.size; omega) (fun k hk => by injection hk with hk; omega)
    · rw [NO.out]; exact ⟨K0.out, rfl⟩
end Go.Proofs.YtakainogpokhgaaGreatDoor
