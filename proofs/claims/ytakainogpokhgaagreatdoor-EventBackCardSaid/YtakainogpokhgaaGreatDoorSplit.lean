/- strings.SplitSeq at a sign: the iterator gives the pieces of the text, one by one. -/
import Derived.Test.YtakainogpokhgaaGreatDoorStrW
import Derived.Test.YtakainogpokhgaaGreatDoorIter
namespace Go.Proofs.YtakainogpokhgaaGreatDoor
open Go.RowKit Go.Shelf Lam
attribute [local go_sem] Oper.semAt_some

theorem grownBy_set (W : World) (b : Nat) (v : Value) : W.grownBy (W.setCell ⟨b, 0, none⟩ v) (some b) :=
  ⟨rfl, rfl, rfl, by simp [World.setCell], fun k _ hk => Below.heap_setCell W _ v k (fun e => hk (by rw [e]))⟩
theorem blk_cell {W : World} {b : Nat} {v : Value} {t : TypeId} (h : W.heap[b]? = some (.cells #[v] t (0, 0))) : W.cell? ⟨b, 0, none⟩ = some v := by
  show (match W.heap[b]? with | some (.cells c _ _) => if (none : Option Nat).isSome then none else c[0]? | _ => none) = some v
  rw [h]; rfl
theorem blk_frozen {W : World} {b : Nat} {v : Value} {t : TypeId} (h : W.heap[b]? = some (.cells #[v] t (0, 0))) : W.frozen? ⟨b, 0, none⟩ = false := by
  show (match W.heap[b]? with | some (.cells _ _ (lo, hi)) => lo ≤ 0 && 0 < hi | _ => false) = false
  rw [h]; rfl
theorem blk_set {W : World} {b : Nat} {v u : Value} {t : TypeId} (h : W.heap[b]? = some (.cells #[v] t (0, 0))) : (W.setCell ⟨b, 0, none⟩ u).heap[b]? = some (.cells #[u] t (0, 0)) := by
  simp [World.setCell, Array.getElem?_modify, h]
/-- the length of the text in a block -/
def strAt (W : World) (b : Nat) : Nat := match W.cell? ⟨b, 0, none⟩ with | some (.string t) => t.size + 1 | _ => 0
theorem strAt_eq {W : World} {b : Nat} {t : ByteArray} {ty : TypeId} (h : W.heap[b]? = some (.cells #[.string t] ty (0, 0))) : strAt W b = t.size + 1 := by unfold strAt; rw [blk_cell h]

structure SplitCells (W : World) (bs bp bv : Nat) (t : ByteArray) (c : UInt8) : Prop where
  s : W.heap[bs]? = some (.cells #[.string t] 9 (0, 0))
  p : W.heap[bp]? = some (.cells #[.string ⟨#[c]⟩] 9 (0, 0))
  v : W.heap[bv]? = some (.cells #[.int .i64 0] 3 (0, 0))

set_option maxRecDepth 100000 in
theorem split_iter (bs bp bv : Nat) (h1 : bs ≠ bp) (h2 : bs ≠ bv) (s : ByteArray) (c : UInt8) (hsz : s.size ≤ 281474976710656) (w : World) (hc : SplitCells w bs bp bv s c) :
    Iter Tryz.prog 154 #[.pointer (some ⟨bp, 0, none⟩), .pointer (some ⟨bs, 0, none⟩), .pointer (some ⟨bv, 0, none⟩)] (fun x : Str => #[.string (B x)]) [bs, bp, bv] (cuts c s.data.toList) w := by
  intro l J Jx W hW hJ hJx hY h0
  have hs0 : W.heap[bs]? = _ := (hW.2 bs (by simp)).trans hc.s
  have hp0 : W.heap[bp]? = _ := (hW.2 bp (by simp)).trans hc.p
  have hv0 : W.heap[bv]? = _ := (hW.2 bv (by simp)).trans hc.v
  have cp := blk_cell hp0
  have HS := Lib.hid hs0
  have HP := Lib.hid hp0
  have HV := Lib.hid hv0
  have HY := Lib.hid hY
  clear hs0 hp0 hv0 hY hW hc
  refine callsIn_of_wp Tryz.func154 rfl trivial ?_ rfl
  simp only [Tryz.ntmps154, List.size_toArray, List.length_cons, List.length_nil, Nat.reduceAdd, Nat.reduceSub, Array.replicate_succ, Array.replicate_zero, List.push_toArray, List.append_toArray, List.nil_append, List.cons_append]
  gi_wp2
  gi_loopw [7] (fun _ wr => ∃ (pre : List Str) (t : ByteArray), cuts c s.data.toList = pre ++ cuts c t.data.toList ∧ t.size ≤ 281474976710656 ∧ SplitCells wr bs bp bv t c ∧ J pre wr) (fun _ wr => strAt wr bs)
  case atStart => exact ⟨[], s, rfl, hsz, ⟨HS.out, HP.out, HV.out⟩, h0⟩
  case round =>
    obtain ⟨pre, t, hx, htz, hcl, hJp⟩ := hrel
    have cs := blk_cell hcl.s
    have cp := blk_cell hcl.p
    have cv := blk_cell hcl.v
    have HX := Lib.hid hx
    have HC := Lib.hid hcl
    clear hx hcl
    by_cases hm : c ∈ t.data.toList
    · obtain ⟨k, hk, hi, hcut⟩ := cut_bytes t hm
      have HI := Lib.hid hi
      have CUT := Lib.hid hcut
      clear hi hcut hm
      have ex : B (t.extract 0 k).data.toList = t.extract 0 k := Lib.mk_data _
      obtain ⟨fn, tmps, assign, body, hy, hR⟩ := HY.out pre (t.extract 0 k).data.toList (cuts c (t.extract (k + 1) t.size).data.toList) wr (by rw [HX.out, CUT.out]) hJp
      rw [ex] at hy
      clear ex
      gi_wp2_with (refine ⟨trivial, ?_⟩; gi_at_call 102; refine (callsIn_wide.2 (Tryz.strings_Index_one t c _)).mono ?_; rintro e w' ⟨rfl, hw⟩; subst hw; rw [HI.out])
      refine hR.mono ?_
      have hc0 := HC.out
      rintro e W3 (⟨rfl, hJ3, hk3⟩ | ⟨rfl, hJx3⟩)
      · have hs3 := (hk3.2 bs (by simp)).trans hc0.s
        have hp3 := (hk3.2 bp (by simp)).trans hc0.p
        have hv3 := (hk3.2 bv (by simp)).trans hc0.v
        have ds := blk_cell hs3
        have dp := blk_cell hp3
        have fs := blk_frozen hs3
        have M1 := Lib.hid (strAt_eq (blk_set (u := .string (t.extract (k + 1) t.size)) hs3))
        have M0 := Lib.hid (strAt_eq hc0.s)
        have B1 := Lib.hid (blk_set (u := .string (t.extract (k + 1) t.size)) hs3)
        have B2 := Lib.hid ((Below.heap_setCell W3 ⟨bs, 0, none⟩ (.string (t.extract (k + 1) t.size)) bp (fun h => h1 h.symm)).trans hp3)
        have B3 := Lib.hid ((Below.heap_setCell W3 ⟨bs, 0, none⟩ (.string (t.extract (k + 1) t.size)) bv (fun h => h2 h.symm)).trans hv3)
        have J4 := Lib.hid (hJ _ _ _ _ hJ3 (grownBy_set W3 bs (.string (t.extract (k + 1) t.size))) (fun r e => by injection e with e; subst e; simp))
        have zz : (t.extract (k + 1) t.size).size = t.size - (k + 1) := by rw [ByteArray.size_extract]; omega
        have ZZ := Lib.hid zz
        clear cs cp cv hs3 hp3 hv3 hc0 hR hy hk3 hJ3 zz
        gi_wp2
        go_roundw
        case rel =>
          refine ⟨pre ++ [(t.extract 0 k).data.toList], t.extract (k + 1) t.size, by rw [HX.out, CUT.out]; simp, by rw [ZZ.out]; omega, ⟨B1.out, B2.out, B3.out⟩, J4.out⟩
        case measure => rw [M1.out, M0.out, ZZ.out]; omega
      · gi_wp2
        refine bodyPost_ret (results_none rfl _ _ _) rfl ?_
        exact ⟨⟨_, rfl⟩, .inr ⟨_, hJx3⟩⟩
    · have hi := Lib.hid (indexByte_none hm)
      have hcut := Lib.hid (cuts_none hm)
      clear hm
      have ex : B t.data.toList = t := Lib.mk_data _
      obtain ⟨fn, tmps, assign, body, hy, hR⟩ := HY.out pre t.data.toList [] wr (by rw [HX.out, hcut.out]) hJp
      rw [ex] at hy
      clear ex
      gi_wp2_with (refine ⟨trivial, ?_⟩; gi_at_call 102; refine (callsIn_wide.2 (Tryz.strings_Index_one t c _)).mono ?_; rintro e w' ⟨rfl, hw⟩; subst hw; rw [hi.out])
      refine hR.mono ?_
      rintro e W3 (⟨rfl, hJ3, hk3⟩ | ⟨rfl, hJx3⟩)
      · gi_wp2
        go_end0
        exact ⟨⟨_, rfl⟩, .inl (by rw [HX.out, hcut.out]; exact hJ3)⟩
      · gi_wp2
        go_end0
        exact ⟨⟨_, rfl⟩, .inr ⟨_, hJx3⟩⟩

/-- what SplitSeq leaves: three boxes -/
def splitWorld (w : World) (s : ByteArray) (c : UInt8) : World :=
  ((w.alloc (.cells #[.string s] 9)).alloc (.cells #[.string ⟨#[c]⟩] 9)).alloc (.cells #[.int .i64 0] 3)
theorem splitSeq_any (s : ByteArray) (c : UInt8) (w : World) :
    Calls Tryz.prog 110 #[.string s, .string ⟨#[c]⟩] w fun e w' =>
      e = .returned (.func (.func 154) #[] #[.pointer (some ⟨w.heap.size + 1, 0, none⟩), .pointer (some ⟨w.heap.size, 0, none⟩), .pointer (some ⟨w.heap.size + 2, 0, none⟩)]) ∧ splitWorld w s c = w' := by
  go_enter Tryz.func110, Tryz.ntmps110
  go_wp2
  go_ret
  exact ⟨rfl, rfl⟩
theorem splitWorld_cells (w : World) (s : ByteArray) (c : UInt8) : SplitCells (splitWorld w s c) w.heap.size (w.heap.size + 1) (w.heap.size + 2) s c := by
  unfold splitWorld
  refine ⟨?_, ?_, ?_⟩
  · rw [Below.heap_alloc _ _ _ (by simp; omega), Below.heap_alloc _ _ _ (by simp)]; exact heap_alloc_new w _
  · rw [Below.heap_alloc _ _ _ (by simp)]; have := heap_alloc_new (w.alloc (.cells #[.string s] 9)) (.cells #[.string ⟨#[c]⟩] 9); simpa using this
  · have := heap_alloc_new ((w.alloc (.cells #[.string s] 9)).alloc (.cells #[.string ⟨#[c]⟩] 9)) (.cells #[.int .i64 0] 3); simpa using this
theorem splitWorld_below (w : World) (s : ByteArray) (c : UInt8) : Below w.heap.size w (splitWorld w s c) :=
  (((Below.refl _ _).alloc (Nat.le_refl _) _).alloc (by simp) _).alloc (by simp; omega) _
theorem splitWorld_size (w : World) (s : ByteArray) (c : UInt8) : (splitWorld w s c).heap.size = w.heap.size + 3 := by unfold splitWorld; simp
theorem splitSeq_iter (w : World) (s : ByteArray) (c : UInt8) (hs : s.size ≤ 281474976710656) :
    Iter Tryz.prog 154 #[.pointer (some ⟨w.heap.size + 1, 0, none⟩), .pointer (some ⟨w.heap.size, 0, none⟩), .pointer (some ⟨w.heap.size + 2, 0, none⟩)] (fun x : Str => #[.string (B x)]) [w.heap.size, w.heap.size + 1, w.heap.size + 2] (cuts c s.data.toList) (splitWorld w s c) :=
  split_iter w.heap.size (w.heap.size + 1) (w.heap.size + 2) (by omega) (by omega) s c hs _ (splitWorld_cells w s c)
end Go.Proofs.YtakainogpokhgaaGreatDoor
