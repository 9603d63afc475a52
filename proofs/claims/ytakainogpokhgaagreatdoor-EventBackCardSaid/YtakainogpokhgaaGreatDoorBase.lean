/- Words that all walks share: errors that are sentinels, endings, worlds. -/
import Derived.Test.YtakainogpokhgaaGreatDoorProg
import Derived.WalkKit
import Derived.WalkSpells
import Derived.WalkLawsBesides
import Derived.Lib.Hide
import Derived.Lib.AppendIntMem
import Derived.ChangeAgain
import Derived.Lib.ItoaNum
import Derived.Deep.Draws
import Derived.Laws.OwnMore
import Derived.Deep.AppendLies
import Derived.RangeFuncWrites
import Derived.OwnWalkIn
import Derived.Maps.AppendAt
namespace Go.Proofs.YtakainogpokhgaaGreatDoor
open Go.RowKit

theorem ret_bool {a b : Bool} (h : a = b) : Ending.returned (.bool a) = .returned (.bool b) := by rw [h]
theorem ret_int {a b : Int} (h : a = b) : Ending.returned (.int .i64 a) = .returned (.int .i64 b) := by rw [h]
theorem ret_int2 {a b : Int} {v : Value} (h : a = b) : Ending.returned (.tuple #[.int .i64 a, v]) = .returned (.tuple #[.int .i64 b, v]) := by rw [h]
theorem results_tmp4 {fn : Func} {t u v x : Tmp} (h : fn.results = #[.tmp t, .tmp u, .tmp v, .tmp x]) (tmps : Array Value) (P : Program) (w : World) :
    (results fn tmps).run P w = .ok (.tuple #[tmps.getD t undef, tmps.getD u undef, tmps.getD v undef, tmps.getD x undef]) w := by simp [results, h]

/-- a sentinel error's value -/
abbrev Er (a : Addr) : Value := .iface 212 (.pointer (some a))
/-- which variable holds the error of a number -/
def errVar : Nat → Nat
  | 1 => 1
  | 2 => 2
  | 3 => 4
  | 4 => 0
  | 5 => 3
  | 6 => 7
  | 7 => 6
  | 8 => 5
  | 9 => 8
  | _ => 0
/-- the variable of error number c holds a sentinel at A c -/
def Sent (c : Nat) (w : World) (A : Nat → Addr) : Prop := w.cell? ⟨errVar c, 0, none⟩ = some (Er (A c))

theorem cell_lt {w : World} {p : Addr} {v : Value} (h : w.cell? p = some v) : p.block < w.heap.size := by
  rcases Nat.lt_or_ge p.block w.heap.size with h' | h'
  · exact h'
  · unfold World.cell? at h; rw [Array.getElem?_eq_none h'] at h; cases h
theorem Below.cells {w w' : World} (hb : Below w.heap.size w w') {p : Addr} {v : Value} (h : w.cell? p = some v) : w'.cell? p = some v := (hb.cell (cell_lt h)).trans h
theorem Below.next {w w1 w2 : World} (h : Below w.heap.size w w1) (k : Below w1.heap.size w1 w2) : Below w.heap.size w w2 := h.trans (k.mono h.size)
theorem Below.draws (w : World) (n : Nat) : Below w.heap.size w (w.drewN n) := ⟨rfl, rfl, rfl, Nat.le_refl _, fun _ _ => rfl⟩
theorem Below.grows (w : World) (k : Nat) (os : Array Obj) : Below w.heap.size w (Sort.grow (w.drewN k) os) := Lib.below_grow _ w (Nat.le_refl _) k os
/-- what walks of this program lean on: sentinels of the numbers in S, tables, the shape of the heap -/
structure Env (S : Nat → Bool) (w : World) (A : Nat → Addr) : Prop where
  sent : ∀ c, S c = true → Sent c w A
  pow : Lib.TabIs Tryz.prog w "internal/strconv.uint64pow10" .u64 Lib.pow10Tab
  shaped : w.ShapedOpen Tryz.prog
  syn : ∃ te pe, w.cell? ⟨10, 0, none⟩ = some (.iface te pe)
  rng : ∃ te pe, w.cell? ⟨11, 0, none⟩ = some (.iface te pe)
theorem Env.up {S : Nat → Bool} {w w' : World} {A : Nat → Addr} (h : Env S w A) (hb : Below w.heap.size w w') : Env S w' A :=
  ⟨fun c hc => Below.cells hb (h.sent c hc), Lib.TabBelow.here (Lib.TabBelow.on (Lib.tabBelow_of_tabIs h.pow) hb),
   h.shaped.keptBut (hb.frame (fun _ => False)) (fun _ hf => hf.elim),
   h.syn.imp fun _ => Exists.imp fun _ => Below.cells hb, h.rng.imp fun _ => Exists.imp fun _ => Below.cells hb⟩
theorem Env.mono {S S' : Nat → Bool} {w : World} {A : Nat → Addr} (h : Env S w A) (hs : ∀ c, S' c = true → S c = true) : Env S' w A :=
  ⟨fun c hc => h.sent c (hs c hc), h.pow, h.shaped, h.syn, h.rng⟩

/-- a slice's head: n elements of so many cells hold xs -/
def Rd (w : World) (size : Nat) (a : Option Addr) (n : Nat) (xs : List Value) : Prop :=
  xs.length = n * size ∧ (0 < n → ∃ b off, a = some ⟨b, off, none⟩ ∧ ∀ j u, xs[j]? = some u → w.cell? ⟨b, off + j, none⟩ = some u)
theorem Rd.up {w w' : World} {size n : Nat} {a : Option Addr} {xs : List Value} (h : Rd w size a n xs) (hb : Below w.heap.size w w') : Rd w' size a n xs :=
  ⟨h.1, fun hn => by obtain ⟨b, off, e, hc⟩ := h.2 hn; exact ⟨b, off, e, fun j u hu => Below.cells hb (hc j u hu)⟩⟩
theorem Rd.nil (w : World) (size : Nat) (a : Option Addr) : Rd w size a 0 [] := ⟨by simp, fun h => absurd h (by omega)⟩
theorem Rd.len {w : World} {n : Nat} {a : Option Addr} {α : Type} {f : α → Value} {l : List α} (h : Rd w 1 a n (l.map f)) : l.length = n := by have := h.1; simp at this; exact this
theorem Rd.at {w : World} {n : Nat} {a : Option Addr} {α : Type} {f : α → Value} {l : List α} (h : Rd w 1 a n (l.map f)) (hn : 0 < n) :
    ∃ b off, a = some ⟨b, off, none⟩ ∧ ∀ (j : Nat) (hj : j < l.length), w.cell? ⟨b, off + j, none⟩ = some (f l[j]) := by
  obtain ⟨b, off, e, hc⟩ := h.2 hn
  exact ⟨b, off, e, fun j hj => hc j _ (by rw [List.getElem?_map, List.getElem?_eq_getElem hj]; rfl)⟩
theorem Rd.of_own {w : World} {base : Nat} {e : TypeId} {size n c : Nat} {a : Option Addr} {xs : List Value} (h : w.ownsRow base e size (.slice a n c) n xs) : Rd w size a n xs := by
  refine ⟨h.1, fun hn => ?_⟩
  obtain ⟨g, cap, hv, _, hlt⟩ := h.form hn
  have ha : a = some ⟨g, 0, none⟩ := by injection hv
  subst ha
  refine ⟨g, 0, rfl, fun j u hu => ?_⟩
  have := h.cells (g := g) rfl j u hu
  rw [Nat.zero_add]
  by_cases hj : j = 0
  · subst hj; simpa [Addr.add] using this
  · simpa [Addr.add, hj] using this

/-- an error of a number (0: none) -/
def errV (A : Nat → Addr) (c : Nat) : Value := if c = 0 then .nilIface else Er (A c)
theorem errV_zero (A : Nat → Addr) : errV A 0 = .nilIface := rfl
theorem errV_pos {A : Nat → Addr} {c : Nat} (h : c ≠ 0) : errV A c = Er (A c) := by unfold errV; rw [if_neg h]
/-- a text as a value's bytes -/
abbrev B (l : List UInt8) : ByteArray := ⟨l.toArray⟩
theorem B_inj {a b : List UInt8} (h : B a = B b) : a = b := by
  have : (B a).data.toList = (B b).data.toList := by rw [h]
  simpa using this
theorem mem_B {f : List UInt8} {l : List (List UInt8)} : B f ∈ l.map B ↔ f ∈ l := by
  constructor
  · intro h; obtain ⟨x, hx, e⟩ := List.mem_map.1 h; rw [← B_inj e]; exact hx
  · intro h; exact List.mem_map.2 ⟨f, h, rfl⟩
theorem new_cell (w : World) (c : Array Value) (t : TypeId) (j : Nat) : (w.alloc (.cells c t)).cell? ⟨w.heap.size, j, none⟩ = c[j]? := by
  have h : (w.alloc (.cells c t)).heap[w.heap.size]? = some (.cells c t (0, 0)) := heap_alloc_new w _
  show (match (w.alloc (.cells c t)).heap[w.heap.size]? with | some (.cells c _ _) => if (none : Option Nat).isSome then none else c[j]? | _ => none) = c[j]?
  rw [h]; rfl

theorem Below.undrew {w w' : World} (h : Below w.drew.heap.size w.drew w') : Below w.heap.size w w' := ⟨h.os, h.tape, h.output, h.size, h.block⟩
theorem Env.drew {S : Nat → Bool} {w : World} {A : Nat → Addr} (h : Env S w A) : Env S w.drew A := h.up (Below.drew (Below.refl _ _))
theorem Env.drewN {S : Nat → Bool} {w : World} {A : Nat → Addr} (h : Env S w A) (n : Nat) : Env S (w.drewN n) A := h.up (Below.draws _ _)

theorem append1_out {w w' : World} {base n : Nat} {e : TypeId} {v : Value} {xs : List Value} (hown : w.ownsRow base e 1 v n xs) (o : Obj) (hbase : base ≤ w.heap.size) (hg : (w.alloc o).grownBy w' v.ownBlock) :
    Below base w w' ∧ KeepsOthers w w' := by
  refine ⟨((Below.refl base w).alloc hbase _).grown hg (by simp; omega) (fun k hk => (hown.lt k hk).1), ?_⟩
  refine (KeepsOthers.alloc w o).trans ⟨hg.size, fun k o' hk ho => ?_⟩
  refine (hg.block k (Array.getElem?_eq_some_iff.1 hk).1 ?_).trans hk
  intro hkr
  rcases hown.2 with ⟨rfl, _⟩ | ⟨g, cap, cur, rfl, _, hh, _⟩
  · simp [Value.ownBlock] at hkr
  · have : k = g := by simpa [Value.ownBlock] using hkr
    subst this
    have hlt : k < w.heap.size := (Array.getElem?_eq_some_iff.1 hh).1
    rw [Below.heap_alloc w o k hlt, hh] at hk
    injection hk with hk; subst hk; cases ho
/-- 'v = append(v, u)', v the call's own from base on: u lies in the block laid last -/
theorem wpList_append1 {P : Program} (w : World) {ops : Array Oper} {rest : List Oper} {o : Oper} {a : Act} {Q : Exit → Act → World → Prop} (hgd : o.guard = none) (s x : Operand) (t : TypeId)
    (ho : o.op = .call { callee := .builtin .append, args := #[s, x], argTypes := #[t, t] })
    (base : Nat) (e : TypeId) (i : TypeInfo) (z : Value) (bytes : Nat) (ht : P.underlying t = some (.slice e)) (hi : P.info? e = some i) (hz : i.zero = some z)
    (hsize : i.size = 1) (hby : i.bytes = bytes) (hzs : z.cells.size = 1)
    (v : Value) (n : Nat) (xs : List Value) (hown : w.ownsRow base e 1 v n xs) (hs : a.eval s = v)
    (u : Value) (hx : a.eval x = .slice (some ⟨w.heap.size, 0, none⟩) 1 1) (h1 : u.oneCell' = true)
    (h63 : n + 1 ≤ maxLen) (hbytes : (n + 1) * bytes ≤ 140737488355328) (hbase : base ≤ w.heap.size)
    (h : ∀ v' w', w'.ownsRow base e 1 v' (n + 1) (xs ++ [u]) → Below base w w' → KeepsOthers w w' → wpList P ops Q rest (a.put o.dst v') w') :
    wpList P ops Q (o :: rest) a (w.alloc (.cells #[u] e)) := by
  refine wpList_append_own _ hgd s x t ho base e i z 1 bytes ht hi hz hsize hby hzs (by decide) v n xs hs (hown.alloc _) ⟨w.heap.size, 0, none⟩ 1 1 [u] hx rfl (cell_one_new _ _ _) (by simp [h1]) h63 hbytes (by simp; omega) ?_
  intro v' w' hown' hg _
  obtain ⟨hb, hk⟩ := append1_out hown _ hbase hg
  exact h v' w' hown' hb hk
/-- the same inside a fence -/
theorem wpListIn_append1 {F : Fence} {d : Nat} {P : Program} (w : World) {ops : Array Oper} {rest : List Oper} {o : Oper} {a : Act} {Q : Exit → Act → World → Prop} (hgd : o.guard = none) (s x : Operand) (t : TypeId)
    (ho : o.op = .call { callee := .builtin .append, args := #[s, x], argTypes := #[t, t] })
    (base : Nat) (e : TypeId) (i : TypeInfo) (z : Value) (bytes : Nat) (ht : P.underlying t = some (.slice e)) (hi : P.info? e = some i) (hz : i.zero = some z)
    (hsize : i.size = 1) (hby : i.bytes = bytes) (hzs : z.cells.size = 1)
    (v : Value) (n : Nat) (xs : List Value) (hown : w.ownsRow base e 1 v n xs) (hs : a.eval s = v)
    (u : Value) (hx : a.eval x = .slice (some ⟨w.heap.size, 0, none⟩) 1 1) (h1 : u.oneCell' = true)
    (h63 : n + 1 ≤ maxLen) (hbytes : (n + 1) * bytes ≤ 140737488355328) (hbase : base ≤ w.heap.size)
    (h : ∀ v' w', w'.ownsRow base e 1 v' (n + 1) (xs ++ [u]) → Below base w w' → KeepsOthers w w' → wpListIn F d P ops Q rest (a.put o.dst v') w') :
    wpListIn F d P ops Q (o :: rest) a (w.alloc (.cells #[u] e)) := by
  refine wpListIn_append_own _ hgd s x t ho base e i z 1 bytes ht hi hz hsize hby hzs (by decide) v n xs hs (hown.alloc _) ⟨w.heap.size, 0, none⟩ 1 1 [u] hx rfl (cell_one_new _ _ _) (by simp [h1]) h63 hbytes (by simp; omega) ?_
  intro v' w' hown' hg _
  obtain ⟨hb, hk⟩ := append1_out hown _ hbase hg
  exact h v' w' hown' hb hk
end Go.Proofs.YtakainogpokhgaaGreatDoor
