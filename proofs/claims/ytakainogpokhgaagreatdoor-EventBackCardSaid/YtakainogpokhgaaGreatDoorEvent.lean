/- Plain law on events (no program in sight): an event is read as it was written; a field is set as it was told. -/
import Derived.Test.YtakainogpokhgaaGreatDoorRule
namespace Go.Proofs.YtakainogpokhgaaGreatDoor.Lam
open Go

structure Ev where
  id : Str
  title : Str
  start : Int
  long : Int
  rule : Rule
  skips : List Int
  moves : List (Int × Int)
deriving DecidableEq

def nameCh (c : UInt8) : Bool := decide (97 ≤ c.toNat ∧ c.toNat ≤ 122) || decide (48 ≤ c.toNat ∧ c.toNat ≤ 57)
def isName (s : Str) : Bool := !s.isEmpty && decide (s.length ≤ 12) && s.all nameCh
def titleCh (c : UInt8) : Bool := decide (32 ≤ c.toNat ∧ c.toNat ≤ 126) && decide (c ≠ 124)
def isTitle (s : Str) : Bool := decide (s.length ≤ 40) && s.all titleCh
def froms (l : List (Int × Int)) : List Int := l.map (·.1)
def listsErr (e : Ev) : Nat :=
  if 20 < e.skips.length ∨ 20 < e.moves.length then 7
  else if rising e.skips = false ∨ rising (froms e.moves) = false then 8
  else if e.skips.all isDay = false ∨ e.moves.all (fun m => isDay m.1 && isDay m.2) = false then 2
  else if (froms e.moves).any (fun d => e.skips.contains d) = true then 6 else 0
def evErr (e : Ev) : Nat :=
  if isName e.id = false then 4 else if isTitle e.title = false then 1
  else if isDay e.start = false ∨ e.long < 1 ∨ 60 < e.long then 2
  else if ruleErr e.rule ≠ 0 then ruleErr e.rule else listsErr e

def skipsTxt (l : List Int) : Str := Lib.join (l.map dayTxt) [44]
def moveTxt (m : Int × Int) : Str := dayTxt m.1 ++ (62 :: dayTxt m.2)
def movesTxt (l : List (Int × Int)) : Str := Lib.join (l.map moveTxt) [44]
/-- a field's text: fields by their place -/
def getF (e : Ev) : Nat → Str
  | 0 => e.title
  | 1 => dayTxt e.start
  | 2 => Lib.itoa e.long
  | 3 => ruleTxt e.rule
  | 4 => skipsTxt e.skips
  | 5 => movesTxt e.moves
  | _ => []
def fieldTxts (e : Ev) : List Str := [getF e 0, getF e 1, getF e 2, getF e 3, getF e 4, getF e 5]
def evTxt (e : Ev) : Str := if evErr e ≠ 0 then [] else Lib.join (e.id :: fieldTxts e) [124]

def longW (s : Str) : Option Int :=
  match Lib.atoiAll s with
  | .ok n => if s.length ≤ 9 ∧ Lib.itoa n = s then some n else none
  | _ => none
def skipsGo : List Str → Got (List Int)
  | [] => .ok []
  | w :: r => match dayRead w with
    | .err c => .err c
    | .ok d => match skipsGo r with
      | .err c => .err c
      | .ok l => .ok (d :: l)
def readSkips (s : Str) : Got (List Int) := if s = [] then .ok [] else skipsGo (cuts 44 s)
/-- what is ahead of the first sign, and behind it -/
def cutAt (c : UInt8) : Str → Option (Str × Str)
  | [] => none
  | x :: r => if x = c then some ([], r) else match cutAt c r with
    | some (a, b) => some (x :: a, b)
    | none => none
def moveOf (w : Str) : Got (Int × Int) :=
  match cutAt 62 w with
  | none => .err 1
  | some (a, b) => match dayRead a with
    | .err c => .err c
    | .ok x => match dayRead b with
      | .err c => .err c
      | .ok y => .ok (x, y)
def movesGo : List Str → Got (List (Int × Int))
  | [] => .ok []
  | w :: r => match moveOf w with
    | .err c => .err c
    | .ok m => match movesGo r with
      | .err c => .err c
      | .ok l => .ok (m :: l)
def readMoves (s : Str) : Got (List (Int × Int)) := if s = [] then .ok [] else movesGo (cuts 44 s)
def putF (e : Ev) (i : Nat) (t : Str) : Got Ev :=
  match i with
  | 0 => .ok { e with title := t }
  | 1 => match dayRead t with | .ok d => .ok { e with start := d } | .err c => .err c
  | 2 => match longW t with | some n => .ok { e with long := n } | none => .err 1
  | 3 => match ruleRead t with | .ok r => .ok { e with rule := r } | .err c => .err c
  | 4 => match readSkips t with | .ok l => .ok { e with skips := l } | .err c => .err c
  | 5 => match readMoves t with | .ok l => .ok { e with moves := l } | .err c => .err c
  | _ => .err 4
def checked (e : Ev) : Got Ev := if evErr e = 0 then .ok e else .err (evErr e)
def setF (e : Ev) (i : Nat) (t : Str) : Got Ev := match putF e i t with | .ok x => checked x | .err c => .err c
def zeroEv (id : Str) : Ev := ⟨id, [], 0, 0, ⟨[], 0, [], 0, 0⟩, [], []⟩
def putAll (e : Ev) (i : Nat) : List Str → Got Ev
  | [] => .ok e
  | t :: r => match putF e i t with | .ok x => putAll x (i + 1) r | .err c => .err c
def evRead (s : Str) : Got Ev :=
  match cuts 124 s with
  | id :: l => if l.length ≠ 6 then .err 1 else match putAll (zeroEv id) 0 l with | .ok x => checked x | .err c => .err c
  | [] => .err 1

structure Right (e : Ev) : Prop where
  name : isName e.id = true
  title : isTitle e.title = true
  start : isDay e.start = true
  long0 : 1 ≤ e.long
  long1 : e.long ≤ 60
  rule : ruleErr e.rule = 0
  nskips : e.skips.length ≤ 20
  nmoves : e.moves.length ≤ 20
  skips : ∀ d ∈ e.skips, isDay d = true
  moves : ∀ m ∈ e.moves, isDay m.1 = true ∧ isDay m.2 = true
theorem right_of {e : Ev} (h : evErr e = 0) : Right e := by
  unfold evErr at h
  split at h; · cases h
  rename_i h1
  split at h; · cases h
  rename_i h2
  split at h; · cases h
  rename_i h3
  split at h; · rename_i h4; exact absurd h h4
  rename_i h4
  unfold listsErr at h
  split at h; · cases h
  rename_i h5
  split at h; · cases h
  split at h; · cases h
  rename_i h7
  refine ⟨by simpa using h1, by simpa using h2, ?_, by omega, by omega, by simpa using h4, by omega, by omega, ?_, ?_⟩
  · cases hs : isDay e.start
    · exact absurd (.inl hs) h3
    · rfl
  · intro d hd
    have : e.skips.all isDay = true := by cases hs : e.skips.all isDay <;> simp_all
    exact List.all_eq_true.1 this d hd
  · intro m hm
    have : e.moves.all (fun m => isDay m.1 && isDay m.2) = true := by cases hs : e.moves.all (fun m => isDay m.1 && isDay m.2) <;> simp_all
    have := List.all_eq_true.1 this m hm
    simpa using this
theorem longW_itoa {n : Int} (h0 : 0 ≤ n) (h1 : n < 10 ^ 9) : longW (Lib.itoa n) = some n := by
  unfold longW
  rw [atoi_itoa h0 (by omega)]
  obtain ⟨k, rfl⟩ := Int.eq_ofNat_of_zero_le h0
  have hk : k < 10 ^ (8 + 1) := by omega
  simp only
  rw [if_pos]
  exact ⟨by rw [itoa_nat]; exact dec_length_le hk, trivial⟩
theorem skipsGo_txt : ∀ {l : List Int}, (∀ d ∈ l, isDay d = true) → skipsGo (l.map dayTxt) = .ok l
  | [], _ => rfl
  | d :: r, h => by
    have ih := skipsGo_txt (l := r) (fun d hd => h d (List.mem_cons_of_mem _ hd))
    simp only [List.map_cons, skipsGo, dayRead_txt (h d (by simp)), ih]
theorem mem_day_no {x : UInt8} {n : Int} (h : x ∈ dayTxt n) : x ≠ 44 ∧ x ≠ 62 ∧ x ≠ 124 ∧ x ≠ 32 := by
  rcases mem_dayTxt h with rfl | h
  · decide
  · refine ⟨?_, ?_, ?_, ?_⟩ <;> rintro rfl <;> simp at h
theorem dayTxt_ne {n : Int} (h : isDay n = true) : dayTxt n ≠ [] := by
  intro e; have := dayTxt_length h; rw [e] at this; simp at this
theorem join_ne {c : UInt8} {p : Str} {r : List Str} (h : p ≠ []) : Lib.join (p :: r) [c] ≠ [] := by
  rw [Lib.join_cons]; simp [h]
theorem readSkips_txt {l : List Int} (h : ∀ d ∈ l, isDay d = true) : readSkips (skipsTxt l) = .ok l := by
  cases l with
  | nil => rfl
  | cons a r =>
    unfold readSkips skipsTxt
    rw [if_neg (by rw [List.map_cons]; exact join_ne (dayTxt_ne (h a (by simp)))), cuts_join (by simp), skipsGo_txt h]
    intro p hp
    obtain ⟨d, hd, rfl⟩ := List.mem_map.1 hp
    exact fun hx => (mem_day_no hx).1 rfl
theorem cutAt_app {c : UInt8} : ∀ {a : Str} (b : Str), c ∉ a → cutAt c (a ++ c :: b) = some (a, b)
  | [], b, _ => by simp [cutAt]
  | x :: r, b, h => by
    have hx : x ≠ c := fun e => h (by simp [e])
    have hr : c ∉ r := fun e => h (by simp [e])
    show cutAt c (x :: (r ++ c :: b)) = _
    simp only [cutAt, hx, if_false, cutAt_app b hr]
theorem cutAt_none {c : UInt8} : ∀ {a : Str}, c ∉ a → cutAt c a = none
  | [], _ => rfl
  | x :: r, h => by
    have hx : x ≠ c := fun e => h (by simp [e])
    have hr : c ∉ r := fun e => h (by simp [e])
    simp only [cutAt, hx, if_false, cutAt_none hr]
theorem moveOf_txt {m : Int × Int} (h : isDay m.1 = true ∧ isDay m.2 = true) : moveOf (moveTxt m) = .ok m := by
  unfold moveOf moveTxt
  rw [cutAt_app _ (fun hx => (mem_day_no hx).2.1 rfl)]
  simp only [dayRead_txt h.1, dayRead_txt h.2]
theorem movesGo_txt : ∀ {l : List (Int × Int)}, (∀ m ∈ l, isDay m.1 = true ∧ isDay m.2 = true) → movesGo (l.map moveTxt) = .ok l
  | [], _ => rfl
  | m :: r, h => by
    have ih := movesGo_txt (l := r) (fun m hm => h m (List.mem_cons_of_mem _ hm))
    simp only [List.map_cons, movesGo, moveOf_txt (h m (by simp)), ih]
theorem mem_move {x : UInt8} {m : Int × Int} (h : x ∈ moveTxt m) : x ≠ 44 ∧ x ≠ 124 ∧ x ≠ 32 := by
  unfold moveTxt at h
  rcases List.mem_append.1 h with h | h
  · exact ⟨(mem_day_no h).1, (mem_day_no h).2.2⟩
  · rcases List.mem_cons.1 h with rfl | h
    · decide
    · exact ⟨(mem_day_no h).1, (mem_day_no h).2.2⟩
theorem readMoves_txt {l : List (Int × Int)} (h : ∀ m ∈ l, isDay m.1 = true ∧ isDay m.2 = true) : readMoves (movesTxt l) = .ok l := by
  cases l with
  | nil => rfl
  | cons a r =>
    unfold readMoves movesTxt
    rw [if_neg (by rw [List.map_cons]; exact join_ne (by simp [moveTxt])), cuts_join (by simp), movesGo_txt h]
    intro p hp
    obtain ⟨d, hd, rfl⟩ := List.mem_map.1 hp
    exact fun hx => (mem_move hx).1 rfl

/-- a field as another one has it -/
def withF (x y : Ev) : Nat → Ev
  | 0 => { x with title := y.title }
  | 1 => { x with start := y.start }
  | 2 => { x with long := y.long }
  | 3 => { x with rule := y.rule }
  | 4 => { x with skips := y.skips }
  | 5 => { x with moves := y.moves }
  | _ => x
theorem putF_getF (x : Ev) {y : Ev} (h : Right y) {i : Nat} (hi : i < 6) : putF x i (getF y i) = .ok (withF x y i) := by
  match i, hi with
  | 0, _ => rfl
  | 1, _ => simp only [putF, getF, dayRead_txt h.start, withF]
  | 2, _ => simp only [putF, getF, longW_itoa (n := y.long) (by have := h.long0; omega) (by have := h.long1; omega), withF]
  | 3, _ => simp only [putF, getF, ruleRead_txt h.rule, withF]
  | 4, _ => simp only [putF, getF, readSkips_txt h.skips, withF]
  | 5, _ => simp only [putF, getF, readMoves_txt h.moves, withF]
theorem withF_self (x : Ev) (i : Nat) : withF x x i = x := by unfold withF; split <;> rfl
theorem getF_withF (x y : Ev) {i : Nat} (hi : i < 6) : getF (withF x y i) i = getF y i := by
  match i, hi with
  | 0, _ | 1, _ | 2, _ | 3, _ | 4, _ | 5, _ => rfl
/-- ████ EACH FIELD SET AS IT IS LEAVES IT ████ -/
theorem setF_self {x : Ev} (h : evErr x = 0) {i : Nat} (hi : i < 6) : setF x i (getF x i) = .ok x := by
  unfold setF; rw [putF_getF x (right_of h) hi, withF_self]; simp [checked, h]
/-- ████ SET AS ANOTHER ONE's IS THAT ONE's ████ -/
theorem setF_other {x y o : Ev} (hy : evErr y = 0) {i : Nat} (hi : i < 6) (h : setF x i (getF y i) = .ok o) : getF o i = getF y i := by
  unfold setF at h; rw [putF_getF x (right_of hy) hi] at h
  simp only [checked] at h
  split at h
  · injection h with h; subst h; exact getF_withF x y hi
  · cases h
theorem mem_skips {x : UInt8} {l : List Int} (h : x ∈ skipsTxt l) : x ≠ 124 := by
  rcases mem_join h with rfl | ⟨p, hp, h⟩
  · decide
  · obtain ⟨d, hd, rfl⟩ := List.mem_map.1 hp; exact (mem_day_no h).2.2.1
theorem mem_moves {x : UInt8} {l : List (Int × Int)} (h : x ∈ movesTxt l) : x ≠ 124 := by
  rcases mem_join h with rfl | ⟨p, hp, h⟩
  · decide
  · obtain ⟨d, hd, rfl⟩ := List.mem_map.1 hp; exact (mem_move h).2.1
theorem mem_name {x : UInt8} {s : Str} (hs : isName s = true) (h : x ∈ s) : nameCh x = true := by
  simp only [isName, Bool.and_eq_true] at hs; exact List.all_eq_true.1 hs.2 x h
theorem mem_title {x : UInt8} {s : Str} (hs : isTitle s = true) (h : x ∈ s) : titleCh x = true := by
  simp only [isTitle, Bool.and_eq_true] at hs; exact List.all_eq_true.1 hs.2 x h
theorem cuts_evTxt {e : Ev} (h : evErr e = 0) : cuts 124 (evTxt e) = e.id :: fieldTxts e := by
  have r := right_of h
  unfold evTxt; rw [if_neg (by simp [h]), cuts_join (by simp)]
  intro p hp
  simp only [fieldTxts, List.mem_cons, List.mem_nil_iff, or_false] at hp
  rcases hp with rfl | rfl | rfl | rfl | rfl | rfl | rfl
  · intro hx; have := mem_name r.name hx; revert this; decide
  · intro hx; have := mem_title r.title hx; revert this; decide
  · exact fun hx => (mem_day_no hx).2.2.1 rfl
  · intro hx; have := mem_itoa (by have := r.long0; omega) hx; simp at this
  · exact fun hx => mem_ruleTxt hx rfl
  · exact fun hx => mem_skips hx rfl
  · exact fun hx => mem_moves hx rfl
/-- ████ AN EVENT IS READ AS IT WAS WRITTEN ████ -/
theorem evRead_txt {e : Ev} (h : evErr e = 0) : evRead (evTxt e) = .ok e := by
  have r := right_of h
  unfold evRead
  rw [cuts_evTxt h]
  simp only [fieldTxts, List.length_cons, List.length_nil, ne_eq, not_true_eq_false, if_false, putAll]
  rw [putF_getF _ r (by omega)]; simp only
  rw [putF_getF _ r (by omega)]; simp only
  rw [putF_getF _ r (by omega)]; simp only
  rw [putF_getF _ r (by omega)]; simp only
  rw [putF_getF _ r (by omega)]; simp only
  rw [putF_getF _ r (by omega)]
  have : withF (withF (withF (withF (withF (withF (zeroEv e.id) e 0) e (0 + 1)) e (0 + 1 + 1)) e (0 + 1 + 1 + 1)) e (0 + 1 + 1 + 1 + 1)) e (0 + 1 + 1 + 1 + 1 + 1) = e := rfl
  simp only [this, checked, h, if_true]
end Go.Proofs.YtakainogpokhgaaGreatDoor.Lam
