/- Library functions in this program's words: lists of texts. -/
import Derived.Test.YtakainogpokhgaaGreatDoorDayT
import Derived.Test.YtakainogpokhgaaGreatDoorEvent
namespace Go.Proofs.YtakainogpokhgaaGreatDoor
open Go.RowKit Lam

theorem own_form {w : World} {base : Nat} {e : TypeId} {size n : Nat} {v : Value} {xs : List Value} (h : w.ownsRow base e size v n xs) :
    ∃ a c, v = .slice a n c ∧ n ≤ c ∧ c ≤ maxLen ∧ Rd w size a n xs := by
  rcases h.2 with ⟨rfl, rfl⟩ | ⟨g, cap, cur, rfl, hb, hh, hn, hm, hs, ht⟩
  · exact ⟨none, 0, rfl, Nat.le_refl _, Nat.zero_le _, h.1, fun hn => absurd hn (by omega)⟩
  · exact ⟨_, cap, rfl, hn, hm, Rd.of_own h⟩
theorem Rd.strs {w : World} {n : Nat} {a : Option Addr} {l : List Str} (h : Rd w 1 a n (l.map fun s => .string (B s))) (hn : 0 < n) :
    ∃ b off, a = some ⟨b, off, none⟩ ∧ b < w.heap.size ∧ ∀ (j : Nat) x, (l.map B)[j]? = some x → w.cell? ⟨b, off + j, none⟩ = some (.string x) := by
  have hl := h.len
  obtain ⟨b, off, e, hc⟩ := h.2 hn
  have h0 : 0 < l.length := by omega
  refine ⟨b, off, e, cell_lt (hc 0 (.string (B l[0])) (by rw [List.getElem?_map, List.getElem?_eq_getElem h0]; rfl)), fun j x hx => ?_⟩
  rw [List.getElem?_map] at hx
  refine hc j _ ?_
  rw [List.getElem?_map]
  cases hj : l[j]? with
  | none => rw [hj] at hx; cases hx
  | some s => rw [hj] at hx; injection hx with hx; subst hx; rfl
theorem join_any (l : List Str) (sep : Str) (a : Option Addr) (n c : Nat) (w : World) (hr : Rd w 1 a n (l.map fun s => .string (B s))) (hc : n ≤ c) (hn : n ≤ 140737488355328) (hl : (Lib.join l sep).length ≤ 140737488355328) :
    Calls Tryz.prog 33 #[.slice a n c, .string ⟨sep.toArray⟩] w fun e w' => e = .returned (.string ⟨(Lib.join l sep).toArray⟩) ∧ Below w.heap.size w w' := by
  have hlen := hr.len
  rcases Nat.eq_zero_or_pos n with h0 | h0
  · subst h0
    have : l = [] := List.eq_nil_of_length_eq_zero hlen
    subst this
    exact (Tryz.strings_Join_none a c ⟨sep.toArray⟩ w).mono fun _ _ ⟨he, hw⟩ => ⟨by rw [he]; rfl, by rw [hw]; exact Below.refl _ _⟩
  · obtain ⟨b, off, rfl, hb, hcells⟩ := hr.strs h0
    have e1 : (l.map B).map (·.data.toList) = l := by rw [List.map_map]; conv => rhs; rw [← List.map_id l]
                                                      exact List.map_congr_left fun x _ => by simp
    have := Tryz.strings_Join b off c (l.map B) ⟨sep.toArray⟩ w hcells hb (by simp; omega) (by simp; omega) (by rw [e1]; simpa using hl)
    rw [e1] at this
    simp only [List.length_map, hlen] at this
    exact this

theorem atoi_ok (s : ByteArray) (hs : s.size ≤ 281474976710656) (v : Int) (h : Lib.atoiAll s.data.toList = .ok v) (w : World) :
    Calls Tryz.prog 69 #[.string s] w fun e w' => e = .returned (.tuple #[.int .i64 v, .nilIface]) ∧ Below w.heap.size w w' :=
  (Tryz.strconv_Atoi_ok s (by omega) v h w).mono fun _ _ ⟨he, hw⟩ => ⟨he, by rcases hw with rfl | ⟨t, rfl⟩; exact Below.refl _ _; exact Lib.bytesWorld_below w _ t⟩
theorem atoi_bad (s : ByteArray) (hs : s.size ≤ 281474976710656) (h : ∀ v, Lib.atoiAll s.data.toList ≠ .ok v) (w : World) {S : Nat → Bool} {A : Nat → Addr} (E : Env S w A) :
    Calls Tryz.prog 69 #[.string s] w fun e w' => ∃ v N, e = .returned (.tuple #[.int .i64 v, .iface 170 (.pointer (some ⟨N, 0, none⟩))]) ∧ Below w.heap.size w w' := by
  cases ha : Lib.atoiAll s.data.toList
  · exact absurd ha (h _)
  · obtain ⟨te, pe, hv⟩ := E.syn
    exact (Tryz.strconv_Atoi_syntax s hs ha _ w hv (.inr ⟨te, pe, rfl⟩)).mono fun _ _ ⟨N, he, _, _, hb⟩ => ⟨_, N, he, hb⟩
  · obtain ⟨te, pe, hv⟩ := E.rng
    exact (Tryz.strconv_Atoi_range s hs ha _ w hv (.inr ⟨te, pe, rfl⟩)).mono fun _ _ ⟨N, he, _, _, hb⟩ => ⟨_, N, he, hb⟩
theorem atoi_range {l : List UInt8} {v : Int} (h : Lib.atoiAll l = .ok v) : -9223372036854775808 ≤ v ∧ v ≤ 9223372036854775807 := by
  unfold Lib.atoiAll at h
  split at h
  · cases h
  · simp only at h
    split at h
    · cases h
    · cases h
    · rename_i u hu
      split at h
      · cases h
      · split at h
        · cases h
        · injection h with h
          subst h
          split <;> omega

theorem split_any (s : ByteArray) (c : UInt8) (hs : s.size < 4294967281) (w : World) (hsh : w.ShapedOpen Tryz.prog) :
    Calls Tryz.prog 31 #[.string s, .string ⟨#[c]⟩] w fun e w' =>
      e = .returned (.slice (some ⟨w.heap.size, 0, none⟩) (cuts c s.data.toList).length (cuts c s.data.toList).length) ∧
      Rd w' 1 (some ⟨w.heap.size, 0, none⟩) (cuts c s.data.toList).length ((cuts c s.data.toList).map fun p => .string (B p)) ∧ Below w.heap.size w w' := by
  obtain ⟨h1, h2⟩ := splitB_cuts s c
  have hl : (cuts c s.data.toList).length = Lib.countB s ⟨#[c]⟩ + 1 := by rw [h2]; exact cuts_length c _ _ (Nat.le_refl _)
  refine (Tryz.strings_Split_shaped s ⟨#[c]⟩ w hsh hs (by show 1 ≤ 1; omega)).mono ?_
  rintro e w' ⟨rfl, rfl⟩
  refine ⟨by rw [hl], ⟨by simp, fun _ => ⟨w.heap.size, 0, rfl, fun j u hu => ?_⟩⟩, (Below.refl _ _).alloc (Nat.le_refl _) _⟩
  rw [Nat.zero_add, new_cell]
  have e1 : (cuts c s.data.toList).map (fun p => Value.string (B p)) = (Lib.splitB ⟨#[c]⟩ 0 (Lib.countB s ⟨#[c]⟩) s).map Value.string := by
    rw [← h1, List.map_map]
    exact List.map_congr_left fun x _ => by simp only [Function.comp]
  rw [e1] at hu
  rw [List.getElem?_toArray, hu]
end Go.Proofs.YtakainogpokhgaaGreatDoor
