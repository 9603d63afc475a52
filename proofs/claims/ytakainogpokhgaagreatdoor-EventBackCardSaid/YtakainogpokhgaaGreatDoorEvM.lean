/- Walks of package event: moves of a text. -/
import Derived.Test.YtakainogpokhgaaGreatDoorEvS
import Derived.Test.YtakainogpokhgaaGreatDoorClone
namespace Go.Proofs.YtakainogpokhgaaGreatDoor
open Go.RowKit Go.Shelf Lam
attribute [local go_sem] Oper.semAt_some

theorem lib_index_cut (c : UInt8) : ∀ s : Str, match cutAt c s with | some (a, b) => Lib.index s [c] = (a.length : Int) ∧ s = a ++ c :: b | none => Lib.index s [c] = -1
  | [] => rfl
  | x :: r => by
    have ih := lib_index_cut c r
    have hp : [c].isPrefixOf (x :: r) = (c == x) := by simp [List.isPrefixOf]
    unfold cutAt
    by_cases h : x = c
    · subst h
      rw [if_pos rfl]
      refine ⟨?_, rfl⟩
      unfold Lib.index; rw [hp]; simp
    · rw [if_neg h]
      have h' : (c == x) = false := by rw [beq_eq_false_iff_ne]; exact fun e => h e.symm
      cases hc : cutAt c r with
      | none =>
        rw [hc] at ih
        show Lib.index (x :: r) [c] = -1
        unfold Lib.index; rw [hp, h', ih]; rfl
      | some p =>
        obtain ⟨a, b⟩ := p
        rw [hc] at ih
        obtain ⟨h1, h2⟩ := ih
        refine ⟨?_, by rw [h2]; rfl⟩
        unfold Lib.index; rw [hp, h', h1]
        have : ((a.length : Int) == -1) = false := by rw [beq_eq_false_iff_ne]; omega
        simp [this]
theorem lib_cut (c : UInt8) (s : Str) : Lib.cut s [c] = match cutAt c s with | some (a, b) => (a, b, true) | none => (s, [], false) := by
  have h := lib_index_cut c s
  unfold Lib.cut
  cases hc : cutAt c s with
  | none => rw [hc] at h; simp only at h ⊢; rw [if_neg (by omega)]
  | some p =>
    obtain ⟨a, b⟩ := p
    rw [hc] at h
    obtain ⟨h1, h2⟩ := h
    simp only
    rw [if_pos (by omega), h1, h2]
    simp
/-- what a cut answers -/
def cutV (s : Str) : Option (Str × Str) → Value
  | some (a, b) => .tuple #[.string (B a), .string (B b), .bool true]
  | none => .tuple #[.string (B s), .string (B []), .bool false]
theorem cut_any (s : ByteArray) (c : UInt8) (hs : s.size < 4294967281) (w : World) (hsh : w.ShapedOpen Tryz.prog) :
    Calls Tryz.prog 48 #[.string s, .string ⟨#[c]⟩] w fun e w' => e = .returned (cutV s.data.toList (cutAt c s.data.toList)) ∧ ∃ n, w' = w.drewN n := by
  refine (Tryz.strings_Cut_shaped s ⟨#[c]⟩ w hsh hs).mono ?_
  rintro e w' ⟨rfl, hw⟩
  refine ⟨?_, hw⟩
  rw [show (⟨#[c]⟩ : ByteArray).data.toList = [c] from rfl, lib_cut]
  cases cutAt c s.data.toList <;> rfl

theorem movesGo_snoc : ∀ {l : List Str} {ds : List (Int × Int)} {w : Str} {d : Int × Int}, movesGo l = .ok ds → moveOf w = .ok d → movesGo (l ++ [w]) = .ok (ds ++ [d])
  | [], ds, w, d, h, hw => by unfold movesGo at h; injection h with h; subst h; simp [movesGo, hw]
  | x :: r, ds, w, d, h, hw => by
    unfold movesGo at h
    cases hx : moveOf x with
    | err c => rw [hx] at h; cases h
    | ok j =>
      rw [hx] at h; simp only at h
      cases hr : movesGo r with
      | err c => rw [hr] at h; cases h
      | ok l =>
        rw [hr] at h; injection h with h; subst h
        have ih := movesGo_snoc hr hw
        simp only [List.cons_append, movesGo, hx, ih]
theorem movesGo_bad : ∀ {l : List Str} {ds : List (Int × Int)} {w : Str} {r : List Str} {c : Nat}, movesGo l = .ok ds → moveOf w = .err c → movesGo (l ++ w :: r) = .err c
  | [], ds, w, r, c, _, hw => by simp [movesGo, hw]
  | x :: l, ds, w, r, c, h, hw => by
    unfold movesGo at h
    cases hx : moveOf x with
    | err c => rw [hx] at h; cases h
    | ok j =>
      rw [hx] at h; simp only at h
      cases hr : movesGo l with
      | err c => rw [hr] at h; cases h
      | ok l =>
        have ih := movesGo_bad (r := r) hr hw
        simp only [List.cons_append, movesGo, hx, ih]
theorem movesGo_length : ∀ {l : List Str} {ds : List (Int × Int)}, movesGo l = .ok ds → ds.length = l.length
  | [], ds, h => by unfold movesGo at h; injection h with h; subst h; rfl
  | x :: r, ds, h => by
    unfold movesGo at h
    cases hx : moveOf x with
    | err c => rw [hx] at h; cases h
    | ok j =>
      rw [hx] at h; simp only at h
      cases hr : movesGo r with
      | err c => rw [hr] at h; cases h
      | ok l => rw [hr] at h; injection h with h; subst h; simp [movesGo_length hr]
theorem moveOf_pos {x : Str} {c : Nat} (h : moveOf x = .err c) : c ≠ 0 := by
  unfold moveOf at h
  split at h
  · injection h with h; omega
  · split at h
    · rename_i h1; injection h with h; subst h; exact dayRead_pos h1
    · split at h
      · rename_i h1; injection h with h; subst h; exact dayRead_pos h1
      · cases h
theorem mvC_snoc (l : List (Int × Int)) (m : Int × Int) : mvC (l ++ [m]) = mvC l ++ [.int .i64 m.1, .int .i64 m.2] := by unfold mvC; simp
theorem cell_two_new (w : World) (x y : Value) (t : TypeId) : ∀ j u, [x, y][j]? = some u → (w.alloc (.cells #[x, y] t)).cell? ((⟨w.heap.size, 0, none⟩ : Addr).add j) = some u := by
  intro j u hj
  rw [Addr.add_lit, Nat.zero_add, new_cell]
  simpa using hj
theorem appendN_out {w w' : World} {base n sz : Nat} {e : TypeId} {v : Value} {xs : List Value} (hown : w.ownsRow base e sz v n xs) (o : Obj) (hbase : base ≤ w.heap.size) (hg : (w.alloc o).grownBy w' v.ownBlock) :
    Below base w w' ∧ KeepsOthers w w' := by
  refine ⟨((Below.refl base w).alloc hbase _).grown hg (by simp; omega) (fun k hk => (hown.lt k hk).1), ?_⟩
  refine (KeepsOthers.alloc w o).trans ⟨hg.size, fun k o' hk ho => ?_⟩
  refine (hg.block k (Array.getElem?_eq_some_iff.1 hk).1 ?_).trans hk
  intro hkr
  rcases hown.2 with ⟨rfl, _⟩ | ⟨g, cap, cur, rfl, _, hh, _⟩
  · simp [Value.ownBlock] at hkr
  · have : k = g := by simpa [Value.ownBlock] using hkr
    subst this
    have hlt : k < w.heap.size := (Array.getElem?_eq_some_iff.1 hh).1
    rw [Below.heap_alloc w o k hlt, hh] at hk
    injection hk with hk; subst hk; cases ho
/-- 'v = append(v, u)', u a pair that lies in the block laid last; inside a fence -/
theorem wpListIn_append2 {F : Fence} {d : Nat} {P : Program} (w : World) {ops : Array Oper} {rest : List Oper} {o : Oper} {a : Act} {Q : Exit → Act → World → Prop} (hgd : o.guard = none) (s x : Operand) (t : TypeId)
    (ho : o.op = .call { callee := .builtin .append, args := #[s, x], argTypes := #[t, t] })
    (base : Nat) (e : TypeId) (i : TypeInfo) (z : Value) (bytes : Nat) (ht : P.underlying t = some (.slice e)) (hi : P.info? e = some i) (hz : i.zero = some z)
    (hsize : i.size = 2) (hby : i.bytes = bytes) (hzs : z.cells.size = 2)
    (v : Value) (n : Nat) (xs : List Value) (hown : w.ownsRow base e 2 v n xs) (hs : a.eval s = v)
    (u1 u2 : Value) (hx : a.eval x = .slice (some ⟨w.heap.size, 0, none⟩) 1 1) (h1 : u1.oneCell' = true) (h2 : u2.oneCell' = true)
    (h63 : n + 1 ≤ maxLen) (hbytes : (n + 1) * bytes ≤ 140737488355328) (hbase : base ≤ w.heap.size)
    (h : ∀ v' w', w'.ownsRow base e 2 v' (n + 1) (xs ++ [u1, u2]) → Below base w w' → KeepsOthers w w' → wpListIn F d P ops Q rest (a.put o.dst v') w') :
    wpListIn F d P ops Q (o :: rest) a (w.alloc (.cells #[u1, u2] e)) := by
  refine wpListIn_append_own _ hgd s x t ho base e i z 2 bytes ht hi hz hsize hby hzs (by decide) v n xs hs (hown.alloc _) ⟨w.heap.size, 0, none⟩ 1 1 [u1, u2] hx rfl (cell_two_new _ _ _ _) (by simp [h1, h2]) h63 hbytes (by simp; omega) ?_
  intro v' w' hown' hg _
  obtain ⟨hb, hk⟩ := appendN_out hown _ hbase hg
  exact h v' w' hown' hb hk
structure MvCells (W : World) (b2 b3 b4 : Nat) (v : Value) : Prop where
  r : W.heap[b2]? = some (.cells #[.slice none 0 0] 25 (0, 0))
  er : W.heap[b3]? = some (.cells #[.nilIface] 32 (0, 0))
  out : W.heap[b4]? = some (.cells #[v] 25 (0, 0))
def MI (w : World) (N : Nat) (pre : List Str) (W : World) : Prop :=
  N + 6 ≤ W.heap.size ∧ ∃ (ds : List (Int × Int)) (v : Value), movesGo pre = .ok ds ∧ MvCells W N (N + 1) (N + 2) v ∧ W.ownsRow (N + 6) 68 2 v ds.length (mvC ds) ∧ Below N w W
def MIx (A : Nat → Addr) (w : World) (N : Nat) (s : Str) (c : Code) (_ : List Str) (W : World) : Prop :=
  c = .ret ∧ ∃ k, k ≠ 0 ∧ readMoves s = .err k ∧ W.heap[N]? = some (.cells #[.slice none 0 0] 25 (0, 0)) ∧ W.heap[N + 1]? = some (.cells #[Er (A k)] 32 (0, 0)) ∧ Below N w W
theorem own_off2 {C : List Nat} {Bd base n sz : Nat} {e : TypeId} {v : Value} {xs : List Value} {W W' : World} {row : Option Nat} (hg : W.grownBy W' row) (hr : ∀ r, row = some r → r ∈ C ∨ (Bd ≤ r ∧ ∃ o : Obj, W.heap[r]? = some o ∧ o.isCells = false))
    (hC : ∀ c ∈ C, c < base) (h : W.ownsRow base e sz v n xs) : W'.ownsRow base e sz v n xs := by
  refine ⟨h.1, ?_⟩
  rcases h.2 with h2 | ⟨g, cap, cur, hv, hb, hh, r⟩
  · exact .inl h2
  · exact .inr ⟨g, cap, cur, hv, hb, grown_off hg hr hh rfl (fun hm => by have := hC g hm; omega), r⟩
theorem MI_steady (w : World) (N : Nat) (hN : N = w.heap.size) : SteadyX [N + 3, N + 4, N + 5] (N + 6) (MI w N) := by
  rintro pre W W' row ⟨h0, ds, v, h1, h2, h3, h4⟩ hg hr
  exact ⟨Nat.le_trans h0 hg.size, ds, v, h1, ⟨grown_off hg hr h2.r rfl (by simp), grown_off hg hr h2.er rfl (by simp), grown_off hg hr h2.out rfl (by simp)⟩, own_off2 hg hr (by simp) h3,
    below_off hg hr (by simp) (by omega) (by have := h4.size; omega) h4⟩
theorem MIx_steady (A : Nat → Addr) (w : World) (N : Nat) (hN : N = w.heap.size) (s : Str) (c : Code) : SteadyX [N + 3, N + 4, N + 5] (N + 6) (MIx A w N s c) := by
  rintro pre W W' row ⟨h1, k, h0, h2, h3, h4, h5⟩ hg hr
  exact ⟨h1, k, h0, h2, grown_off hg hr h3 rfl (by simp), grown_off hg hr h4 rfl (by simp), below_off hg hr (by simp) (by omega) (by have := h5.size; omega) h5⟩
/-- what reading moves answers -/
def MvPost (A : Nat → Addr) (t : Got (List (Int × Int))) (w : World) (e : Ending) (w' : World) : Prop :=
  Below w.heap.size w w' ∧ match t with
  | .ok l => ∃ v, e = .returned (.tuple #[v, .nilIface]) ∧ w'.ownsRow w.heap.size 68 2 v l.length (mvC l)
  | .err c => c ≠ 0 ∧ e = .returned (.tuple #[.slice none 0 0, Er (A c)])
set_option maxRecDepth 100000 in set_option maxHeartbeats 2000000 in
theorem readMoves_any (s : ByteArray) (hs : s.size ≤ 1000000000) (w : World) {S : Nat → Bool} {A : Nat → Addr} (E : Env S w A) (h1 : S 1 = true) (h2 : S 2 = true) :
    Calls Tryz.prog 72 #[.string s] w (MvPost A (readMoves s.data.toList) w) := by
  by_cases he : s.data.toList = []
  case pos =>
    have T : readMoves s.data.toList = .ok [] := by unfold readMoves; rw [if_pos he]
    rw [T]
    have e1 : s.toList = [] := by rw [Lib.toList_data]; exact he
    clear T he E
    go_enter Tryz.func72, Tryz.ntmps72
    go_wp2_with fail
    have q0 : ((w.alloc (.cells #[.slice none 0 0] 25)).alloc (.cells #[.nilIface] 32)).cell? ⟨w.heap.size, 0, none⟩ = some (.slice none 0 0) :=
      (Below.cells ((Below.refl _ _).alloc (Nat.le_refl _) _) (new_cell w _ _ 0 : _ = some (Value.slice none 0 0)))
    have q1 : ((w.alloc (.cells #[.slice none 0 0] 25)).alloc (.cells #[.nilIface] 32)).cell? ⟨w.heap.size + 1, 0, none⟩ = some .nilIface := by
      simp
    have hb : Below w.heap.size w ((w.alloc (.cells #[.slice none 0 0] 25)).alloc (.cells #[.nilIface] 32)) := ((Below.refl _ _).alloc (Nat.le_refl _) _).alloc (by simp) _
    generalize (w.alloc (.cells #[.slice none 0 0] 25)).alloc (.cells #[.nilIface] 32) = W at *
    refine bodyPost_ret (v := .tuple #[.slice none 0 0, .nilIface]) ?_ rfl ⟨hb, .slice none 0 0, rfl, World.ownsRow_nil _ _ _ _⟩
    simp [results, Tryz.results72, go_sem, q0, q1]
  case neg =>
  have hsn : (s.toList == []) = false := by rw [beq_eq_false_iff_ne, Lib.toList_data]; exact he
  have hsn2 : ¬ s.toList = [] := by rw [Lib.toList_data]; exact he
  have RS : readMoves s.data.toList = movesGo (cuts 44 s.data.toList) := by unfold readMoves; rw [if_neg he]
  clear he
  refine (callsIn_wide (n := 5)).1 ?_
  refine callsIn_of_wp_marks Tryz.func72 rfl trivial ?_ rfl
  simp only [Tryz.ntmps72, List.size_toArray, List.length_cons, List.length_nil, Nat.reduceAdd, Nat.reduceSub, Array.replicate_succ, Array.replicate_zero, List.push_toArray, List.append_toArray, List.nil_append, List.cons_append]
  gi_wp2_with (refine ⟨trivial, ?_⟩; gi_at_call 110; refine (callsIn_wide.2 (splitSeq_any s 44 _)).mono ?_; rintro e w' ⟨rfl, rfl⟩)
  have hit := splitSeq_iter (((w.alloc (.cells #[.slice none 0 0] 25)).alloc (.cells #[.nilIface] 32)).alloc (.cells #[.slice none 0 0] 25)) s 44 (by omega)
  have hsz := splitWorld_size (((w.alloc (.cells #[.slice none 0 0] 25)).alloc (.cells #[.nilIface] 32)).alloc (.cells #[.slice none 0 0] 25)) s 44
  have hb3 : Below w.heap.size w (((w.alloc (.cells #[.slice none 0 0] 25)).alloc (.cells #[.nilIface] 32)).alloc (.cells #[.slice none 0 0] 25)) :=
    (((Below.refl _ _).alloc (Nat.le_refl _) _).alloc (by simp) _).alloc (by simp; omega) _
  have hb4 := splitWorld_below (((w.alloc (.cells #[.slice none 0 0] 25)).alloc (.cells #[.nilIface] 32)).alloc (.cells #[.slice none 0 0] 25)) s 44
  have hbl := Below.next hb3 hb4
  have hc0 : (((w.alloc (.cells #[.slice none 0 0] 25)).alloc (.cells #[.nilIface] 32)).alloc (.cells #[.slice none 0 0] 25)).heap[w.heap.size]? = some (.cells #[.slice none 0 0] 25 (0, 0)) := by
    rw [Below.heap_alloc _ _ _ (by simp; omega), Below.heap_alloc _ _ _ (by simp)]; exact heap_alloc_new w _
  have hc1 : (((w.alloc (.cells #[.slice none 0 0] 25)).alloc (.cells #[.nilIface] 32)).alloc (.cells #[.slice none 0 0] 25)).heap[w.heap.size + 1]? = some (.cells #[.nilIface] 32 (0, 0)) := by
    rw [Below.heap_alloc _ _ _ (by simp)]; have := heap_alloc_new (w.alloc (.cells #[.slice none 0 0] 25)) (.cells #[.nilIface] 32); simpa using this
  have hc2 : (((w.alloc (.cells #[.slice none 0 0] 25)).alloc (.cells #[.nilIface] 32)).alloc (.cells #[.slice none 0 0] 25)).heap[w.heap.size + 2]? = some (.cells #[.slice none 0 0] 25 (0, 0)) := by
    have := heap_alloc_new ((w.alloc (.cells #[.slice none 0 0] 25)).alloc (.cells #[.nilIface] 32)) (.cells #[.slice none 0 0] 25); simpa using this
  have hz3 : (((w.alloc (.cells #[.slice none 0 0] 25)).alloc (.cells #[.nilIface] 32)).alloc (.cells #[.slice none 0 0] 25)).heap.size = w.heap.size + 3 := by simp
  generalize (((w.alloc (.cells #[.slice none 0 0] 25)).alloc (.cells #[.nilIface] 32)).alloc (.cells #[.slice none 0 0] 25)) = w3 at *
  rw [hz3] at hit hsz
  have hcl : MvCells (splitWorld w3 s 44) w.heap.size (w.heap.size + 1) (w.heap.size + 2) (.slice none 0 0) :=
    ⟨(hb4.block _ (by omega)).trans hc0, (hb4.block _ (by omega)).trans hc1, (hb4.block _ (by omega)).trans hc2⟩
  clear hb3 hb4 hc0 hc1 hc2 hz3
  generalize splitWorld w3 s 44 = W0 at *
  clear w3
  obtain ⟨N, hN⟩ : ∃ N, N = w.heap.size := ⟨_, rfl⟩
  rw [← hN] at hit hsz hcl hbl ⊢
  have hszN : W0.heap.size = N + 6 := by omega
  clear hsz
  have HN := Lib.hid hN
  have HRS := Lib.hid RS
  clear hN RS
  refine wpIn_iter (gf := 154) (lb := #[.pointer (some ⟨N + 3 + 1, 0, none⟩), .pointer (some ⟨N + 3, 0, none⟩), .pointer (some ⟨N + 3 + 2, 0, none⟩)]) rfl (enters_of Tryz.func154 (by kernel_rfl) rfl)
    hit (by intro c hc; simp at hc; omega) (fun _ => rfl) (MI w N) (MIx A w N s.data.toList) (by rw [hszN]; exact MI_steady w N HN.out) (fun c => by rw [hszN]; exact MIx_steady A w N HN.out _ c)
    ⟨by omega, [], _, rfl, hcl, World.ownsRow_nil _ _ _ _, hbl⟩
    (fun x => { tmps := #[.string s, undef, .pointer (some ⟨N, 0, none⟩), .pointer (some ⟨N + 1, 0, none⟩), .pointer (some ⟨N + 1 + 1, 0, none⟩), .string (B x), undef, undef, undef, undef, undef, undef, .string s, .bool false, .string s, .func (.func 154) #[] #[.pointer (some ⟨N + 1 + 1 + 1 + 1, 0, none⟩), .pointer (some ⟨N + 1 + 1 + 1, 0, none⟩), .pointer (some ⟨N + 1 + 1 + 1 + 2, 0, none⟩)], .string (B x), undef, undef, undef, undef, undef, undef, undef, undef, undef, undef, undef, undef, undef, undef, undef, undef, undef, undef, undef, undef, undef, undef, undef, undef, undef, undef, undef, undef, undef, undef, undef, undef], defers := [] }) ?assign ?body ?done ?stop
  case assign =>
    intro l x W K hK
    gi_wp2
    exact hK
  case body =>
    rintro l pre x post W hxs ⟨h6, ds, v, hds, hcl, hown, hbw⟩ hl hlC
    have hl' : N + 6 ≤ l := by omega
    have hwz := hbw.size
    have hW6 : N + 6 ≤ W.heap.size := h6
    have hbw0 : Below w.heap.size w W := by rw [← HN.out]; exact hbw
    have EW := E.up hbw0
    have hxl : x.length ≤ s.size := by have := pieces_len (c := 44) (s := s.data.toList) (p := x) (by rw [hxs]; simp); rw [len_data] at this; exact this
    have CU := cut_any (B x) 62 (by show x.toArray.size < _; simp; omega) W EW.shaped
    rw [show (B x).data.toList = x by simp] at CU
    have HDS := Lib.hid hds
    have HX := Lib.hid hxs
    clear hds hxs hit hbl hbw0
    cases hcu : cutAt 62 x with
    | none =>
      rw [hcu] at CU
      have hmo : moveOf x = .err 1 := by unfold moveOf; rw [hcu]
      have hbad : readMoves s.data.toList = .err 1 := by rw [HRS.out, HX.out]; exact movesGo_bad HDS.out hmo
      have BAD := Lib.hid hbad
      have CP : Hid ((1 : Nat) ≠ 0) := Lib.hid (by decide)
      have CUH := Lib.hid CU
      clear hbad CU hmo hcu
      gi_wp2_with fail
      refine ⟨trivial, ?_⟩
      refine (CallsIn.inRound l (callsIn_wide.2 CUH.out)).mono ?_
      rintro e w' ⟨rfl, m, rfl⟩
      dsimp only [cutV]
      have hb5 : Below N w (W.drewN m) := below_drewN hbw _
      have hcl5 : MvCells (W.drewN m) N (N + 1) (N + 2) v := ⟨hcl.r, hcl.er, hcl.out⟩
      have hk5 : KeepsOthers W (W.drewN m) := ⟨Nat.le_refl _, fun _ _ h _ => h⟩
      have ce : (W.drewN m).cell? ⟨1, 0, none⟩ = some (Er (A 1)) := EW.sent 1 h1
      have hNg : (1 : Nat) ≠ N := by
        have := E.sent 1 h1; have := cell_lt this; have := HN.out; simp only [errVar] at *; omega
      have hNg1 : (1 : Nat) ≠ N + 1 := by
        have := E.sent 1 h1; have := cell_lt this; have := HN.out; simp only [errVar] at *; omega
      generalize W.drewN m = W5 at *
      have r2 := blk_cell hcl5.r
      have r3 := blk_cell hcl5.er
      have f2 := blk_frozen hcl5.r
      have f3 := blk_frozen hcl5.er
      have S1 := blk_set (u := .slice none 0 0) hcl5.r
      have S2 : (W5.setCell ⟨N, 0, none⟩ (.slice none 0 0)).heap[N + 1]? = some (.cells #[.nilIface] 32 (0, 0)) := (Below.heap_setCell _ _ _ _ (by simp)).trans hcl5.er
      have T1 := (Below.heap_setCell (W5.setCell ⟨N, 0, none⟩ (.slice none 0 0)) ⟨N + 1, 0, none⟩ (Er (A 1)) N (by simp)).trans S1
      have T2 := blk_set (u := Er (A 1)) S2
      have BB := (hb5.setCell (p := ⟨N, 0, none⟩) (by simp) (.slice none 0 0)).setCell (p := ⟨N + 1, 0, none⟩) (by simp) (Er (A 1))
      have KK := (hk5.trans (KeepsOthers.setCell W5 ⟨N, 0, none⟩ (.slice none 0 0))).trans (KeepsOthers.setCell _ ⟨N + 1, 0, none⟩ (Er (A 1)))
      have FIN := Lib.hid (And.intro T1 (And.intro T2 (And.intro BB KK)))
      clear S1 S2 T1 T2 BB KK hb5 hk5 hown hcl5 hcl
      gi_wp2_with fail
      gi_region_with (fail)
      all_goals gi_wp2
      all_goals obtain ⟨T1, T2, BB, KK⟩ := FIN.out
      all_goals exact ⟨(KK.trans (KeepsOthers.drew _)).from _, rfl, 1, CP.out, BAD.out, T1, T2, BB.drew⟩
    | some p =>
    obtain ⟨a, b⟩ := p
    rw [hcu] at CU
    have CUH := Lib.hid CU
    have DA := fun m => Lib.hid (dayRead_any (B a) (W.drewN m) (EW.drewN m) h1 h2)
    have DB := fun m => Lib.hid (dayRead_any (B b) (W.drewN m) (EW.drewN m) h1 h2)
    rw [show (B a).data.toList = a by simp] at DA
    rw [show (B b).data.toList = b by simp] at DB
    clear CU
    cases hda : dayRead a with
    | err c =>
      have hmo : moveOf x = .err c := by unfold moveOf; rw [hcu]; simp only [hda]
      have hbad : readMoves s.data.toList = .err c := by rw [HRS.out, HX.out]; exact movesGo_bad HDS.out hmo
      have BAD := Lib.hid hbad
      have CP := Lib.hid (dayRead_pos hda)
      rw [hda] at DA
      clear hbad hmo hcu hda DB
      gi_wp2_with fail
      refine ⟨trivial, ?_⟩
      refine (CallsIn.inRound l (callsIn_wide.2 CUH.out)).mono ?_
      rintro e w' ⟨rfl, m, rfl⟩
      dsimp only [cutV]
      gi_wp2_with fail
      refine ⟨trivial, ?_⟩
      refine (CallsIn.inRound l (callsIn_wide.2 (DA m).out)).mono ?_
      rintro e w' ⟨rfl, m2, rfl⟩
      dsimp only [gotI]
      have hb5 : Below N w ((W.drewN m).drewN m2) := below_drewN (below_drewN hbw _) _
      have hcl5 : MvCells ((W.drewN m).drewN m2) N (N + 1) (N + 2) v := ⟨hcl.r, hcl.er, hcl.out⟩
      have hk5 : KeepsOthers W ((W.drewN m).drewN m2) := ⟨Nat.le_refl _, fun _ _ h _ => h⟩
      generalize (W.drewN m).drewN m2 = W5 at *
      have r2 := blk_cell hcl5.r
      have r3 := blk_cell hcl5.er
      have f2 := blk_frozen hcl5.r
      have f3 := blk_frozen hcl5.er
      have S1 := blk_set (u := .slice none 0 0) hcl5.r
      have S2 : (W5.setCell ⟨N, 0, none⟩ (.slice none 0 0)).heap[N + 1]? = some (.cells #[.nilIface] 32 (0, 0)) := (Below.heap_setCell _ _ _ _ (by simp)).trans hcl5.er
      have g3 := blk_cell S2
      have k3 := blk_frozen S2
      have T1 := (Below.heap_setCell (W5.setCell ⟨N, 0, none⟩ (.slice none 0 0)) ⟨N + 1, 0, none⟩ (Er (A c)) N (by simp)).trans S1
      have T2 := blk_set (u := Er (A c)) S2
      have BB := (hb5.setCell (p := ⟨N, 0, none⟩) (by simp) (.slice none 0 0)).setCell (p := ⟨N + 1, 0, none⟩) (by simp) (Er (A c))
      have KK := (hk5.trans (KeepsOthers.setCell W5 ⟨N, 0, none⟩ (.slice none 0 0))).trans (KeepsOthers.setCell _ ⟨N + 1, 0, none⟩ (Er (A c)))
      have FIN := Lib.hid (And.intro T1 (And.intro T2 (And.intro BB KK)))
      clear S1 S2 T1 T2 BB KK hb5 hk5 hown hcl5 hcl
      gi_wp2
      obtain ⟨T1, T2, BB, KK⟩ := FIN.out
      exact ⟨KK.from _, rfl, c, CP.out, BAD.out, T1, T2, BB⟩
    | ok d1 =>
    rw [hda] at DA
    cases hdb : dayRead b with
    | err c =>
      have hmo : moveOf x = .err c := by unfold moveOf; rw [hcu]; simp only [hda, hdb]
      have hbad : readMoves s.data.toList = .err c := by rw [HRS.out, HX.out]; exact movesGo_bad HDS.out hmo
      have BAD := Lib.hid hbad
      have CP := Lib.hid (dayRead_pos hdb)
      rw [hdb] at DB
      clear hbad hmo hcu hda hdb
      gi_wp2_with fail
      refine ⟨trivial, ?_⟩
      refine (CallsIn.inRound l (callsIn_wide.2 CUH.out)).mono ?_
      rintro e w' ⟨rfl, m, rfl⟩
      dsimp only [cutV]
      gi_wp2_with fail
      refine ⟨trivial, ?_⟩
      refine (CallsIn.inRound l (callsIn_wide.2 (DA m).out)).mono ?_
      rintro e w' ⟨rfl, m2, rfl⟩
      dsimp only [gotI]
      gi_wp2_with fail
      refine ⟨trivial, ?_⟩
      refine (CallsIn.inRound l (callsIn_wide.2 (DB _).out)).mono ?_
      rintro e w' ⟨rfl, m3, rfl⟩
      dsimp only [gotI]
      have hb5 : Below N w ((W.drewN (m + m2)).drewN m3) := below_drewN (below_drewN hbw _) _
      have hcl5 : MvCells ((W.drewN (m + m2)).drewN m3) N (N + 1) (N + 2) v := ⟨hcl.r, hcl.er, hcl.out⟩
      have hk5 : KeepsOthers W ((W.drewN (m + m2)).drewN m3) := ⟨Nat.le_refl _, fun _ _ h _ => h⟩
      generalize (W.drewN (m + m2)).drewN m3 = W5 at *
      have r2 := blk_cell hcl5.r
      have r3 := blk_cell hcl5.er
      have f2 := blk_frozen hcl5.r
      have f3 := blk_frozen hcl5.er
      have S1 := blk_set (u := .slice none 0 0) hcl5.r
      have S2 : (W5.setCell ⟨N, 0, none⟩ (.slice none 0 0)).heap[N + 1]? = some (.cells #[.nilIface] 32 (0, 0)) := (Below.heap_setCell _ _ _ _ (by simp)).trans hcl5.er
      have g3 := blk_cell S2
      have k3 := blk_frozen S2
      have T1 := (Below.heap_setCell (W5.setCell ⟨N, 0, none⟩ (.slice none 0 0)) ⟨N + 1, 0, none⟩ (Er (A c)) N (by simp)).trans S1
      have T2 := blk_set (u := Er (A c)) S2
      have BB := (hb5.setCell (p := ⟨N, 0, none⟩) (by simp) (.slice none 0 0)).setCell (p := ⟨N + 1, 0, none⟩) (by simp) (Er (A c))
      have KK := (hk5.trans (KeepsOthers.setCell W5 ⟨N, 0, none⟩ (.slice none 0 0))).trans (KeepsOthers.setCell _ ⟨N + 1, 0, none⟩ (Er (A c)))
      have FIN := Lib.hid (And.intro T1 (And.intro T2 (And.intro BB KK)))
      clear S1 S2 T1 T2 BB KK hb5 hk5 hown hcl5 hcl
      gi_wp2
      obtain ⟨T1, T2, BB, KK⟩ := FIN.out
      exact ⟨KK.from _, rfl, c, CP.out, BAD.out, T1, T2, BB⟩
    | ok d2 =>
      rw [hdb] at DB
      have hmo : moveOf x = .ok (d1, d2) := by unfold moveOf; rw [hcu]; simp only [hda, hdb]
      have SN := Lib.hid (movesGo_snoc HDS.out hmo)
      have hlen : ds.length ≤ s.size := by
        have h1 := movesGo_length HDS.out
        have h2 := cuts_count 44 s.data.toList
        rw [HX.out, len_data] at h2
        simp at h2; omega
      obtain ⟨i0, hi, hz0, hz1, hz2⟩ := info_parts mv_info
      clear hmo hcu hda hdb
      gi_wp2_with fail
      refine ⟨trivial, ?_⟩
      refine (CallsIn.inRound l (callsIn_wide.2 CUH.out)).mono ?_
      rintro e w' ⟨rfl, m, rfl⟩
      dsimp only [cutV]
      gi_wp2_with fail
      refine ⟨trivial, ?_⟩
      refine (CallsIn.inRound l (callsIn_wide.2 (DA m).out)).mono ?_
      rintro e w' ⟨rfl, m2, rfl⟩
      dsimp only [gotI]
      gi_wp2_with fail
      refine ⟨trivial, ?_⟩
      refine (CallsIn.inRound l (callsIn_wide.2 (DB _).out)).mono ?_
      rintro e w' ⟨rfl, m3, rfl⟩
      dsimp only [gotI]
      have hb5 : Below N w ((W.drewN (m + m2)).drewN m3) := below_drewN (below_drewN hbw _) _
      have hcl5 : MvCells ((W.drewN (m + m2)).drewN m3) N (N + 1) (N + 2) v := ⟨hcl.r, hcl.er, hcl.out⟩
      have hk5 : KeepsOthers W ((W.drewN (m + m2)).drewN m3) := ⟨Nat.le_refl _, fun _ _ h _ => h⟩
      have hs5 : SameAt [N + 3, N + 3 + 1, N + 3 + 2] W ((W.drewN (m + m2)).drewN m3) := SameAt.refl _ _
      have hown5 := own_up (own_up hown (Below.draws W (m + m2))) (Below.draws _ m3)
      have hz5 : N + 6 ≤ ((W.drewN (m + m2)).drewN m3).heap.size := hW6
      clear hown hcl hbw DA DB
      generalize (W.drewN (m + m2)).drewN m3 = W5 at *
      have r4 := blk_cell hcl5.out
      have CL5 := Lib.hid hcl5
      clear hcl5
      gi_wp2_with (gi_at_builtin; refine wpListIn_append2 W5 rfl (.tmp 42) (.tmp 46) 25 rfl (N + 6) 68 i0 (.agg #[.int .i64 0, .int .i64 0]) 16 Tryz.underlying25 hi hz0 hz1 hz2 rfl _ ds.length _ hown5 rfl (.int .i64 d1) (.int .i64 d2) rfl rfl rfl ?h6 ?h7 ?h8 ?_; (case h6 => simp only [maxLen]; omega); (case h7 => omega); (case h8 => exact hz5); intro v6 w6 hown6 hb6 hk6; obtain ⟨a6, c6, rfl, _, _, _⟩ := own_form hown6; have o6 := (hb6.block (N + 2) (by omega)).trans CL5.out.out; have q6 := blk_cell o6; have p6 := blk_frozen o6)
      have c5 := CL5.out
      have R6 := (Below.heap_setCell w6 ⟨N + 2, 0, none⟩ (.slice a6 (ds.length + 1) c6) N (by simp)).trans ((hb6.block N (by omega)).trans c5.r)
      have K6 := (Below.heap_setCell w6 ⟨N + 2, 0, none⟩ (.slice a6 (ds.length + 1) c6) (N + 1) (by simp)).trans ((hb6.block (N + 1) (by omega)).trans c5.er)
      have O6 := blk_set (u := .slice a6 (ds.length + 1) c6) o6
      have W6 := ownsRow_setCell_below hown6 (a := ⟨N + 2, 0, none⟩) (by simp) (.slice a6 (ds.length + 1) c6)
      have B6 : Below N w (w6.setCell ⟨N + 2, 0, none⟩ (.slice a6 (ds.length + 1) c6)) := (hb5.trans (hb6.mono (by omega))).setCell (p := ⟨N + 2, 0, none⟩) (by simp) _
      have KK6 := (hk5.trans hk6).trans (KeepsOthers.setCell w6 ⟨N + 2, 0, none⟩ (.slice a6 (ds.length + 1) c6))
      have SS6 : SameAt [N + 3, N + 3 + 1, N + 3 + 2] W (w6.setCell ⟨N + 2, 0, none⟩ (.slice a6 (ds.length + 1) c6)) :=
        (hs5.trans (SameAt.below hb6 (by intro c hc; simp at hc; omega))).trans ⟨by simp [World.setCell], fun c hc => Below.heap_setCell _ _ _ _ (by simp at hc ⊢; omega)⟩
      have Z6 : N + 6 ≤ (w6.setCell ⟨N + 2, 0, none⟩ (.slice a6 (ds.length + 1) c6)).heap.size := by have := hb6.size; simp [World.setCell]; omega
      have FIN := Lib.hid (And.intro R6 (And.intro K6 (And.intro O6 (And.intro W6 (And.intro B6 (And.intro KK6 (And.intro SS6 Z6)))))))
      clear R6 K6 O6 W6 B6 KK6 SS6 Z6 c5
      gi_wp2
      obtain ⟨R6, K6, O6, W6, B6, KK6, SS6, Z6⟩ := FIN.out
      exact ⟨KK6.from _, SS6, Z6, ds ++ [(d1, d2)], _, SN.out, ⟨R6, K6, O6⟩, by rw [mvC_snoc]; simpa using W6, B6⟩
  case done =>
    rintro D W hD ⟨h6, ds, v, hds, hcl, hown, hbw⟩ hK
    have cr := blk_cell hcl.r
    have ck := blk_cell hcl.er
    have co := blk_cell hcl.out
    have fr := blk_frozen hcl.r
    have fk := blk_frozen hcl.er
    have HD := Lib.hid hds
    have HC := Lib.hid hcl
    have HK := Lib.hid hK
    obtain ⟨a6, c6, rfl, _, _, _⟩ := own_form hown
    clear hds hcl hK hit hbl
    gi_wp2
    have hc := HC.out
    have hN := HN.out
    have q1 := (Below.heap_setCell (W.setCell ⟨N, 0, none⟩ (.slice a6 ds.length c6)) ⟨N + 1, 0, none⟩ .nilIface N (by simp)).trans (blk_set (u := .slice a6 ds.length c6) hc.r)
    have q2 := blk_set (u := .nilIface) ((Below.heap_setCell W ⟨N, 0, none⟩ (.slice a6 ds.length c6) (N + 1) (by simp)).trans hc.er)
    have hK2 := (Below.heap_setCell (W.setCell ⟨N, 0, none⟩ (.slice a6 ds.length c6)) ⟨N + 1, 0, none⟩ .nilIface D (by simp; omega)).trans ((Below.heap_setCell W ⟨N, 0, none⟩ (.slice a6 ds.length c6) D (by simp; omega)).trans HK.out)
    have hb2 : Below N w ((W.setCell ⟨N, 0, none⟩ (.slice a6 ds.length c6)).setCell ⟨N + 1, 0, none⟩ .nilIface) := (hbw.setCell (p := ⟨N, 0, none⟩) (Nat.le_refl _) _).setCell (p := ⟨N + 1, 0, none⟩) (Nat.le_succ _) _
    have ho2 := ownsRow_setCell_below (ownsRow_setCell_below hown (a := ⟨N, 0, none⟩) (by show N < N + 6; omega) (.slice a6 ds.length c6)) (a := ⟨N + 1, 0, none⟩) (by show N + 1 < N + 6; omega) .nilIface
    generalize (W.setCell ⟨N, 0, none⟩ (.slice a6 ds.length c6)).setCell ⟨N + 1, 0, none⟩ .nilIface = W2 at *
    have x1 := blk_cell ((putObj_off (W := W2) (d := D) (k := N) (o := .deferred none) (by omega)).trans q1)
    have x2 := blk_cell ((putObj_off (W := W2) (d := D) (k := N + 1) (o := .deferred none) (by omega)).trans q2)
    refine ⟨by simp, .inl ⟨_, _, rfl, run_takeDeferred hK2, ?_⟩⟩
    refine ⟨.tuple #[.slice a6 ds.length c6, .nilIface], by simp [results, Tryz.results72, go_sem, x1, x2], ?_, ?_⟩
    · rw [← hN]; exact hb2.grown (grownBy_putObj' W2 D _) (by have := hb2.size; omega) (fun k hk => by injection hk with hk; omega)
    · rw [HRS.out, HD.out]
      refine ⟨_, rfl, ?_⟩
      rw [← hN]; exact own_mono (ownsRow_putObj ho2 _ hK2 rfl) (by omega)
  case stop =>
    rintro D c pre W hD ⟨rfl, k, hk0, hno, hr, hok, hbw⟩ hK
    have HK := Lib.hid hK
    have R := Lib.hid hr
    have O := Lib.hid hok
    have NO := Lib.hid hno
    have K0 := Lib.hid hk0
    clear hK hr hok hit hbl hno hk0
    gi_wp2
    have hN := HN.out
    have hK2 := HK.out
    have x1 := blk_cell ((putObj_off (W := W) (d := D) (k := N) (o := .deferred none) (by omega)).trans R.out)
    have x2 := blk_cell ((putObj_off (W := W) (d := D) (k := N + 1) (o := .deferred none) (by omega)).trans O.out)
    refine ⟨by simp, .inl ⟨_, _, rfl, run_takeDeferred hK2, ?_⟩⟩
    refine ⟨.tuple #[.slice none 0 0, Er (A k)], by simp [results, Tryz.results72, go_sem, x1, x2], ?_, ?_⟩
    · rw [← hN]; exact hbw.grown (grownBy_putObj' W D _) (by have := hbw.size; omega) (fun k hk => by injection hk with hk; omega)
    · rw [NO.out]; exact ⟨K0.out, rfl⟩
end Go.Proofs.YtakainogpokhgaaGreatDoor
