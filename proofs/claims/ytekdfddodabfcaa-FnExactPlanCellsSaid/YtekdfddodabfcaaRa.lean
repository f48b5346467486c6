/- The engine, part A: data as trees, what it means that a value in memory reads as a tree (K) or is a tree that the call owns (M), and how both stay while memory changes. -/
import Derived.Below
import Derived.Laws.OwnMore
import Derived.WalkKit
namespace Go.Proofs.Ytekdfddodabfcaa
open Go.RowKit
set_option linter.unusedVariables false
set_option linter.unusedSimpArgs false

/-- A value as data: a scalar, a slice (its elements' type, its elements, each a list of cells), or unknown. -/
inductive DV where
  | s (v : Value)
  | l (e : Nat) (ls : List (List DV))
  | no

inductive All2 {α β : Type} (R : α → β → Prop) : List α → List β → Prop
  | nil : All2 R [] []
  | cons {a : α} {b : β} {l : List α} {m : List β} : R a b → All2 R l m → All2 R (a :: l) (b :: m)

namespace All2
variable {α β : Type} {R R' : α → β → Prop}
theorem len {l : List α} {m : List β} (h : All2 R l m) : l.length = m.length := by
  induction h with
  | nil => rfl
  | cons _ _ ih => simp [ih]
theorem get {l : List α} {m : List β} (h : All2 R l m) : ∀ (i : Nat) (a : α), l[i]? = some a → ∃ b, m[i]? = some b ∧ R a b := by
  induction h with
  | nil => intro i a h; simp at h
  | cons h0 _ ih =>
    intro i a h
    cases i with
    | zero => simp at h; subst h; exact ⟨_, by simp, h0⟩
    | succ i => simp at h; obtain ⟨b, hb, hr⟩ := ih i a h; exact ⟨b, by simpa using hb, hr⟩
theorem get' {l : List α} {m : List β} (h : All2 R l m) : ∀ (i : Nat) (b : β), m[i]? = some b → ∃ a, l[i]? = some a ∧ R a b := by
  induction h with
  | nil => intro i a h; simp at h
  | cons h0 _ ih =>
    intro i b h
    cases i with
    | zero => simp at h; subst h; exact ⟨_, by simp, h0⟩
    | succ i => simp at h; obtain ⟨a, ha, hr⟩ := ih i b h; exact ⟨a, by simpa using ha, hr⟩
theorem imp {l : List α} {m : List β} (h : All2 R l m) (hr : ∀ a b, R a b → R' a b) : All2 R' l m := by
  induction h with
  | nil => exact .nil
  | cons h0 _ ih => exact .cons (hr _ _ h0) ih
theorem set {l : List α} {m : List β} (h : All2 R l m) (i : Nat) {a : α} {b : β} (hr : R a b) : All2 R (l.set i a) (m.set i b) := by
  induction h generalizing i with
  | nil => exact .nil
  | cons h0 ht ih =>
    cases i with
    | zero => exact .cons hr ht
    | succ i => exact .cons h0 (ih i)
theorem append {l l' : List α} {m m' : List β} (h : All2 R l m) (h' : All2 R l' m') : All2 R (l ++ l') (m ++ m') := by
  induction h with
  | nil => exact h'
  | cons h0 _ ih => exact .cons h0 ih
theorem of_get {l : List α} {m : List β} (hl : l.length = m.length) (h : ∀ (i : Nat) a b, l[i]? = some a → m[i]? = some b → R a b) : All2 R l m := by
  induction l generalizing m with
  | nil => cases m with
    | nil => exact .nil
    | cons b m => simp at hl
  | cons a l ih => cases m with
    | nil => simp at hl
    | cons b m =>
      refine .cons (h 0 a b rfl rfl) (ih (by simpa using hl) fun i a b h1 h2 => h (i + 1) a b (by simpa using h1) (by simpa using h2))
theorem drop {l : List α} {m : List β} (h : All2 R l m) (n : Nat) : All2 R (l.drop n) (m.drop n) := by
  induction h generalizing n with
  | nil => simp; exact .nil
  | cons h0 ht ih => cases n with
    | zero => exact .cons h0 ht
    | succ n => exact ih n
theorem take {l : List α} {m : List β} (h : All2 R l m) (n : Nat) : All2 R (l.take n) (m.take n) := by
  induction h generalizing n with
  | nil => simp; exact .nil
  | cons h0 ht ih => cases n with
    | zero => exact .nil
    | succ n => exact .cons h0 (ih n)
end All2

def sca : Value → Bool
  | .bool _ | .int _ _ | .string _ => true
  | _ => false
theorem one_of_sca {v : Value} (h : sca v = true) : v.oneCell' = true := by cases v <;> simp_all [sca, Value.oneCell']

/-- The cells of a type, as the program's table has them. -/
def szT (P : Program) (t : Nat) : Nat := ((P.info? t).map (·.size)).getD 0

/-- A value that reads as data, in blocks that U holds. -/
inductive K (P : Program) (w : World) (U : Nat → Prop) : DV → Value → Prop
  | s {v : Value} : sca v = true → K P w U (.s v) v
  | no {v : Value} : v.oneCell' = true → K P w U .no v
  | nil {e : Nat} {ad : Option Addr} : K P w U (.l e []) (.slice ad 0 0)
  | l {e : Nat} {ls : List (List DV)} {b o cap : Nat} {arr : Array Value} {t : Nat} {fz : Nat × Nat} {vals : Nat → Nat → Value} :
      U b → w.heap[b]? = some (.cells arr t fz) → ls.length ≤ cap → cap ≤ maxLen →
      (∀ (i : Nat) cs, ls[i]? = some cs → cs.length = szT P e) →
      (∀ (i : Nat) cs (j : Nat) d, ls[i]? = some cs → cs[j]? = some d → arr[o + i * szT P e + j]? = some (vals i j)) →
      (∀ (i : Nat) cs (j : Nat) d, ls[i]? = some cs → cs[j]? = some d → K P w U d (vals i j)) →
      K P w U (.l e ls) (.slice (some ⟨b, o, none⟩) ls.length cap)

/-- A value whose memory, all in blocks that S holds, is the call's own. -/
inductive M (P : Program) (w : World) : (Nat → Prop) → DV → Value → Prop
  | s {S : Nat → Prop} {v : Value} : sca v = true → M P w S (.s v) v
  | no {S : Nat → Prop} {v : Value} : v.oneCell' = true → M P w S .no v
  | nil {S : Nat → Prop} {e : Nat} : M P w S (.l e []) (.slice none 0 0)
  | l {S : Nat → Prop} {e : Nat} {ls : List (List DV)} {b cap : Nat} {arr : Array Value} {vals : Nat → Nat → Value} {F : Nat → Nat → Nat → Prop} :
      S b → (∀ i j k, F i j k → S k ∧ k ≠ b) → (∀ i j i' j' k, F i j k → F i' j' k → i = i' ∧ j = j') →
      w.heap[b]? = some (.cells arr e (0, 0)) → ls.length ≤ cap → cap ≤ maxLen → cap * szT P e ≤ arr.size →
      (∀ (i : Nat) cs, ls[i]? = some cs → cs.length = szT P e) →
      (∀ (i : Nat) cs (j : Nat) d, ls[i]? = some cs → cs[j]? = some d → arr[i * szT P e + j]? = some (vals i j)) →
      (∀ (i : Nat) cs (j : Nat) d, ls[i]? = some cs → cs[j]? = some d → M P w (F i j) d (vals i j)) →
      M P w S (.l e ls) (.slice (some ⟨b, 0, none⟩) ls.length cap)

section
variable {P : Program} {w w' : World} {U U' S S' : Nat → Prop} {d : DV} {v : Value}

theorem K.one (h : K P w U d v) : v.oneCell' = true := by
  cases h with
  | s h => exact one_of_sca h
  | no h => exact h
  | nil => rfl
  | l => rfl
theorem M.one (h : M P w S d v) : v.oneCell' = true := by
  cases h with
  | s h => exact one_of_sca h
  | no h => exact h
  | nil => rfl
  | l => rfl
/-- Reading stays where the blocks stay. -/
theorem K.move (h : K P w U d v) (hu : ∀ k, U k → U' k) (hw : ∀ k, U k → w'.heap[k]? = w.heap[k]?) : K P w' U' d v := by
  induction h with
  | s h => exact .s h
  | no h => exact .no h
  | nil => exact .nil
  | l h1 h2 h3 h4 h5 h6 _ ih => exact .l (hu _ h1) ((hw _ h1).trans h2) h3 h4 h5 h6 ih
theorem M.move (h : M P w S d v) (hw : ∀ k, S k → w'.heap[k]? = w.heap[k]?) : M P w' S d v := by
  induction h with
  | s h => exact .s h
  | no h => exact .no h
  | nil => exact .nil
  | l h1 h2 h3 h4 h5 h6 h7 h8 h9 _ ih => exact .l h1 h2 h3 ((hw _ h1).trans h4) h5 h6 h7 h8 h9 fun i cs j d a b => ih i cs j d a b fun k hk => hw k (h2 _ _ _ hk).1
theorem M.mono (h : M P w S d v) (hs : ∀ k, S k → S' k) : M P w S' d v := by
  cases h with
  | s h => exact .s h
  | no h => exact .no h
  | nil => exact .nil
  | l h1 h2 h3 h4 h5 h6 h7 h8 h9 h10 => exact .l (hs _ h1) (fun i j k hk => ⟨hs _ (h2 i j k hk).1, (h2 i j k hk).2⟩) h3 h4 h5 h6 h7 h8 h9 h10
theorem K.of_M (h : M P w S d v) (hs : ∀ k, S k → U k) : K P w U d v := by
  induction h with
  | s h => exact .s h
  | no h => exact .no h
  | nil => exact .nil
  | l h1 h2 h3 h4 h5 h6 h7 h8 h9 _ ih =>
    exact .l (hs _ h1) h4 h5 h6 h8 (by simpa using h9) fun i cs j d a b => ih i cs j d a b fun k hk => hs k (h2 _ _ _ hk).1
theorem K.lt (h : K P w U d v) : K P w (fun k => U k ∧ k < w.heap.size) d v := by
  induction h with
  | s h => exact .s h
  | no h => exact .no h
  | nil => exact .nil
  | l h1 h2 h3 h4 h5 h6 _ ih => exact .l ⟨h1, (Array.getElem?_eq_some_iff.1 h2).1⟩ h2 h3 h4 h5 h6 ih
theorem M.lt (h : M P w S d v) : M P w (fun k => S k ∧ k < w.heap.size) d v := by
  induction h with
  | s h => exact .s h
  | no h => exact .no h
  | nil => exact .nil
  | @l S e ls b cap arr vals F h1 h2 h3 h4 h5 h6 h7 h8 h9 _ ih =>
    exact .l (F := fun i j k => F i j k ∧ k < w.heap.size) ⟨h1, (Array.getElem?_eq_some_iff.1 h4).1⟩ (fun i j k hk => ⟨⟨(h2 i j k hk.1).1, hk.2⟩, (h2 i j k hk.1).2⟩)
      (fun i j i' j' k a b => h3 i j i' j' k a.1 b.1) h4 h5 h6 h7 h8 h9 ih
end
end Go.Proofs.Ytekdfddodabfcaa
/- The engine, part B: abstract values and states, and what it means that a state of the machine is one that they describe. -/
namespace Go.Proofs.Ytekdfddodabfcaa
open Go.RowKit
set_option linter.unusedVariables false
set_option linter.unusedSimpArgs false

/-- What one cell may hold. v: exactly this value. ro: a slice that is only read. sl: the whole of row 'id'. sb: some of row 'id'. inn: the slice that lies in row 'id', element i, cell j. pt: the address of cell 'off' of variable 'id'. rp: of cell 'off' of element i of row 'id'. tp: of cell 'off' of an element that is only read. mp: the map that block 'id' is. fn: a function value that has captured addresses. -/
inductive CV where
  | v (x : Value)
  | ro (e : Nat) (ls : List (List DV))
  | sl (id n : Nat)
  | sb (id lo n : Nat)
  | inn (id i j : Nat)
  | pt (id off : Nat)
  | rp (id i off : Nat)
  | tp (cs : List DV) (off : Nat)
  | mp (id : Nat)
  | fn (f : Nat) (ps : List (Nat × Nat))
  | no

/-- What a slot may hold. -/
inductive AV where
  | c (x : CV)
  | ag (xs : List CV)
  | tu (xs : List (CV ⊕ List CV))
  | no

/-- What a block of the call's own may be: a variable, or a row of elements (pn: slices in it may be spoken of by 'inn'), or an object known whole. -/
inductive AB where
  | var (t : Nat) (cs : List CV)
  | row (pn : Bool) (e : Nat) (ls : List (List DV))
  | ob (o : Obj)

abbrev Hp := List (Option AB)
def hget (hp : Hp) (id : Nat) : Option AB := (hp[id]?).getD none
def hput : Hp → Nat → Option AB → Hp
  | [], 0, x => [x]
  | [], n + 1, x => none :: hput [] n x
  | _ :: l, 0, x => x :: l
  | y :: l, n + 1, x => y :: hput l n x
theorem hget_hput (hp : Hp) (i j : Nat) (x : Option AB) : hget (hput hp i x) j = if j = i then x else hget hp j := by
  induction i generalizing hp j with
  | zero => cases hp <;> cases j <;> simp [hput, hget]
  | succ i ih =>
    cases hp with
    | nil => cases j with
      | zero => simp [hput, hget]
      | succ j => have := ih [] j; simp only [hget] at this; simp [hput, hget, this]
    | cons y l => cases j with
      | zero => simp [hput, hget]
      | succ j => have := ih l j; simp only [hget] at this; simp [hput, hget, this]
theorem hget_hput_same (hp : Hp) (i : Nat) (x : Option AB) : hget (hput hp i x) i = x := by simp [hget_hput]
theorem hget_hput_ne (hp : Hp) {i j : Nat} (x : Option AB) (h : j ≠ i) : hget (hput hp i x) j = hget hp j := by simp [hget_hput, h]

/-- What is not told of a block: where it lies, how many elements it has room for, the cells of an element, the blocks that are its own, the places that hold slices. -/
structure Gi where
  b : Nat
  nl : Bool
  cap : Nat
  sz : Nat
  S : Nat → Prop
  pin : Nat → Nat → Prop

abbrev Gh := Nat → Gi
/-- A row's address: its block's begin, or none. -/
def hd (b : Nat) (nl : Bool) : Option Addr := if nl then none else some ⟨b, 0, none⟩
def Gh.upd (G : Gh) (id : Nat) (g : Gi) : Gh := fun i => if i = id then g else G i
@[simp] theorem Gh.upd_same (G : Gh) (id : Nat) (g : Gi) : G.upd id g id = g := by simp [Gh.upd]
theorem Gh.upd_ne (G : Gh) {id i : Nat} (g : Gi) (h : i ≠ id) : G.upd id g i = G i := by simp [Gh.upd, h]

/-- The blocks that nobody writes: there, and no block's own. -/
def Uo (G : Gh) (w : World) (k : Nat) : Prop := k < w.heap.size ∧ ∀ id, ¬ (G id).S k

/-- An element that is only read, at cell o of block b. -/
def TP (P : Program) (w : World) (U : Nat → Prop) (b o : Nat) (cs : List DV) : Prop :=
  U b ∧ ∃ arr t fz, w.heap[b]? = some (.cells arr t fz) ∧ ∀ (j : Nat) d, cs[j]? = some d → ∃ v, arr[o + j]? = some v ∧ K P w U d v

def Cr (P : Program) (G : Gh) (On : Nat → Prop) (w : World) : CV → Value → Prop
  | .v x, y => y = x ∧ x.oneCell' = true
  | .ro e ls, y => K P w (Uo G w) (.l e ls) y
  | .sl id n, y => On id ∧ y = .slice (hd (G id).b (G id).nl) n (G id).cap
  | .sb id lo n, y => On id ∧ ∃ ad cap, y = .slice ad n cap ∧ n ≤ cap ∧ lo + cap ≤ (G id).cap ∧ (lo = 0 → ad = hd (G id).b (G id).nl) ∧ (0 < n → ad = some ⟨(G id).b, lo * (G id).sz, none⟩) ∧ (ad = none → cap = 0)
  | .inn id i j, y => On id ∧ y.oneCell' = true ∧ ((G id).pin i j → w.cell? ⟨(G id).b, i * (G id).sz + j, none⟩ = some y)
  | .pt id off, y => On id ∧ y = .pointer (some ⟨(G id).b, off, none⟩)
  | .rp id i off, y => On id ∧ y = .pointer (some ⟨(G id).b, i * (G id).sz + off, none⟩)
  | .tp cs off, y => ∃ b o, y = .pointer (some ⟨b, o + off, none⟩) ∧ TP P w (Uo G w) b o cs
  | .mp id, y => On id ∧ y = .map (some (G id).b)
  | .fn f ps, y => (∀ p ∈ ps, On p.1) ∧ y = .func (.func f) #[] (ps.map fun p => Value.pointer (some ⟨(G p.1).b, p.2, none⟩)).toArray
  | .no, y => y.oneCell' = true

def Pr (P : Program) (G : Gh) (On : Nat → Prop) (w : World) : CV ⊕ List CV → Value → Prop
  | .inl c, y => Cr P G On w c y
  | .inr xs, y => ∃ vs : Array Value, y = .agg vs ∧ All2 (Cr P G On w) xs vs.toList

def Vr (P : Program) (G : Gh) (On : Nat → Prop) (w : World) : AV → Value → Prop
  | .c x, y => Cr P G On w x y
  | .ag xs, y => ∃ vs : Array Value, y = .agg vs ∧ All2 (Cr P G On w) xs vs.toList
  | .tu xs, y => ∃ vs : Array Value, y = .tuple vs ∧ All2 (Pr P G On w) xs vs.toList
  | .no, _ => True

def Bk (P : Program) (G : Gh) (On : Nat → Prop) (w : World) (g : Gi) : AB → Prop
  | .var t cs => g.S g.b ∧ (∀ i j, ¬ g.pin i j) ∧ ∃ arr, w.heap[g.b]? = some (.cells arr t (0, 0)) ∧ All2 (Cr P G On w) cs arr.toList
  | .row pn e ls => g.sz = szT P e ∧ M P w g.S (.l e ls) (.slice (hd g.b g.nl) ls.length g.cap) ∧
      ∀ (i j : Nat), g.pin i j ↔ pn = true ∧ ∃ cs e ls', ls[i]? = some cs ∧ (cs[j]? = some (.l e ls') ∨ cs[j]? = some .no)
  | .ob o => g.S g.b ∧ (∀ i j, ¬ g.pin i j) ∧ w.heap[g.b]? = some o

/-- What lies in F is left alone. -/
structure Kept (F : Nat → Prop) (w w' : World) : Prop where
  os : w'.os = w.os
  tape : w'.tape = w.tape
  output : w'.output = w.output
  size : w.heap.size ≤ w'.heap.size
  block : ∀ k, F k → w'.heap[k]? = w.heap[k]?
theorem Kept.refl (F : Nat → Prop) (w : World) : Kept F w w := ⟨rfl, rfl, rfl, Nat.le_refl _, fun _ _ => rfl⟩
theorem Kept.trans {F : Nat → Prop} {w w' w'' : World} (h : Kept F w w') (h' : Kept F w' w'') : Kept F w w'' :=
  ⟨h'.os.trans h.os, h'.tape.trans h.tape, h'.output.trans h.output, Nat.le_trans h.size h'.size, fun k hk => (h'.block k hk).trans (h.block k hk)⟩
theorem Kept.drew {F : Nat → Prop} {w w' : World} (h : Kept F w w') : Kept F w w'.drew := ⟨h.os, h.tape, h.output, h.size, h.block⟩
theorem Kept.of {F : Nat → Prop} {w w' : World} (h : Below w.heap.size w w') (hF : ∀ k, F k → k < w.heap.size) : Kept F w w' := ⟨h.os, h.tape, h.output, h.size, fun k hk => h.block k (hF k hk)⟩
theorem Kept.setCell {F : Nat → Prop} {w : World} {p : Addr} (hp : ¬ F p.block) (v : Value) : Kept F w (w.setCell p v) :=
  ⟨rfl, rfl, rfl, by simp [World.setCell], fun k hk => Below.heap_setCell w p v k fun e => hp (e ▸ hk)⟩

/-- What a call has been given: blocks that it leaves alone; how many blocks it may turn (they have the numbers below n), and where they lie. -/
structure Fr where
  keep : Nat → Prop
  n : Nat
  g : Gh

structure St where
  sl : List AV
  hp : Hp

/-- The state of the machine (a, w) is one that 'σ' describes; the call began in w0, F: what it leaves alone; On: the numbers that have been given out. -/
structure Rel (P : Program) (B : Fr) (w0 : World) (G : Gh) (On : Nat → Prop) (σ : St) (a : Act) (w : World) : Prop where
  bel : Kept B.keep w0 w
  base : ∀ k, B.keep k → k < w.heap.size
  sl : All2 (Vr P G On w) σ.sl a.tmps.toList
  hp : ∀ id blk, hget σ.hp id = some blk → On id ∧ Bk P G On w (G id) blk
  own : ∀ id k, (G id).S k → ¬ B.keep k ∧ k < w.heap.size
  dead : ∀ id, hget σ.hp id = none → (∀ k, ¬ (G id).S k) ∧ ∀ i j, ¬ (G id).pin i j
  dis : ∀ id id' k, (G id).S k → (G id').S k → id = id'
  df : a.defers = []
  an : ∀ id, id < B.n → On id ∧ (G id).b = (B.g id).b ∧ (G id).nl = (B.g id).nl ∧ (G id).cap = (B.g id).cap ∧ (G id).sz = (B.g id).sz

section
variable {P : Program} {G G' : Gh} {On On' : Nat → Prop} {w w' : World} {B : Fr} {w0 : World} {σ : St} {a : Act}

theorem TP.move {U U' : Nat → Prop} {b o : Nat} {cs : List DV} (h : TP P w U b o cs) (hu : ∀ k, U k → U' k) (hw : ∀ k, U k → w'.heap[k]? = w.heap[k]?) : TP P w' U' b o cs := by
  obtain ⟨h1, arr, t, fz, h2, h3⟩ := h
  refine ⟨hu _ h1, arr, t, fz, (hw _ h1).trans h2, fun j d hd => ?_⟩
  obtain ⟨v, hv, hk⟩ := h3 j d hd
  exact ⟨v, hv, hk.move hu hw⟩

/-- What a step must leave alone for readings to stay: the blocks that nobody writes; the place of each block whose number has been given out; the slices that lie in rows. -/
structure Stay (G : Gh) (On : Nat → Prop) (w : World) (G' : Gh) (On' : Nat → Prop) (w' : World) : Prop where
  on : ∀ id, On id → On' id
  uo : ∀ k, Uo G w k → Uo G' w' k ∧ w'.heap[k]? = w.heap[k]?
  gb : ∀ id, On id → (G' id).b = (G id).b ∧ (G' id).nl = (G id).nl ∧ (G' id).cap = (G id).cap ∧ (G' id).sz = (G id).sz ∧ (∀ i j, (G' id).pin i j → (G id).pin i j)
  inn : ∀ id i j v, On id → (G' id).pin i j → w.cell? ⟨(G id).b, i * (G id).sz + j, none⟩ = some v → w'.cell? ⟨(G id).b, i * (G id).sz + j, none⟩ = some v

theorem Cr.stay (hs : Stay G On w G' On' w') {c : CV} {v : Value} (h : Cr P G On w c v) : Cr P G' On' w' c v := by
  cases c with
  | v x => exact h
  | ro e ls => exact K.move h (fun k hk => (hs.uo k hk).1) (fun k hk => (hs.uo k hk).2)
  | sl id n => obtain ⟨ho, h⟩ := h; refine ⟨hs.on _ ho, ?_⟩; rw [(hs.gb id ho).1, (hs.gb id ho).2.1, (hs.gb id ho).2.2.1]; exact h
  | sb id lo n => obtain ⟨ho, h⟩ := h; refine ⟨hs.on _ ho, ?_⟩; rw [(hs.gb id ho).1, (hs.gb id ho).2.1, (hs.gb id ho).2.2.1, (hs.gb id ho).2.2.2.1]; exact h
  | inn id i j => obtain ⟨ho, h1, h2⟩ := h; refine ⟨hs.on _ ho, h1, fun hp => ?_⟩; rw [(hs.gb id ho).1, (hs.gb id ho).2.2.2.1]; exact hs.inn id i j v ho hp (h2 ((hs.gb id ho).2.2.2.2 i j hp))
  | pt id off => obtain ⟨ho, h⟩ := h; refine ⟨hs.on _ ho, ?_⟩; rw [(hs.gb id ho).1]; exact h
  | rp id i off => obtain ⟨ho, h⟩ := h; refine ⟨hs.on _ ho, ?_⟩; rw [(hs.gb id ho).1, (hs.gb id ho).2.2.2.1]; exact h
  | tp cs off =>
    obtain ⟨b, o, h1, h2⟩ := h
    exact ⟨b, o, h1, h2.move (fun k hk => (hs.uo k hk).1) (fun k hk => (hs.uo k hk).2)⟩
  | mp id => obtain ⟨ho, h⟩ := h; refine ⟨hs.on _ ho, ?_⟩; rw [(hs.gb id ho).1]; exact h
  | fn f ps =>
    obtain ⟨ho, rfl⟩ := h
    refine ⟨fun p hp => hs.on _ (ho p hp), ?_⟩
    have : (ps.map fun p => Value.pointer (some ⟨(G p.1).b, p.2, none⟩)) = ps.map fun p => Value.pointer (some ⟨(G' p.1).b, p.2, none⟩) := List.map_congr_left fun p hp => by rw [(hs.gb p.1 (ho p hp)).1]
    rw [this]
  | no => exact h
theorem Cr.one {c : CV} {v : Value} (h : Cr P G On w c v) : v.oneCell' = true := by
  cases c with
  | v x => obtain ⟨rfl, h⟩ := h; exact h
  | ro e ls => exact K.one h
  | sl id n => obtain ⟨_, rfl⟩ := h; rfl
  | sb id lo n => obtain ⟨_, _, _, rfl, _⟩ := h; rfl
  | inn id i j => exact h.2.1
  | pt id off => obtain ⟨_, rfl⟩ := h; rfl
  | rp id i off => obtain ⟨_, rfl⟩ := h; rfl
  | tp cs off => obtain ⟨b, o, rfl, _⟩ := h; rfl
  | mp id => obtain ⟨_, rfl⟩ := h; rfl
  | fn f ps => obtain ⟨_, rfl⟩ := h; rfl
  | no => exact h
theorem Pr.stay (hs : Stay G On w G' On' w') {c : CV ⊕ List CV} {v : Value} (h : Pr P G On w c v) : Pr P G' On' w' c v := by
  cases c with
  | inl c => exact Cr.stay hs h
  | inr xs => obtain ⟨vs, h1, h2⟩ := h; exact ⟨vs, h1, h2.imp fun _ _ h => h.stay hs⟩
theorem Vr.stay (hs : Stay G On w G' On' w') {c : AV} {v : Value} (h : Vr P G On w c v) : Vr P G' On' w' c v := by
  cases c with
  | c x => exact Cr.stay hs h
  | ag xs => obtain ⟨vs, h1, h2⟩ := h; exact ⟨vs, h1, h2.imp fun _ _ h => h.stay hs⟩
  | tu xs => obtain ⟨vs, h1, h2⟩ := h; exact ⟨vs, h1, h2.imp fun _ _ h => h.stay hs⟩
  | no => trivial
theorem Bk.stay (hs : Stay G On w G' On' w') {g : Gi} {blk : AB} (hm : ∀ k, g.S k → w'.heap[k]? = w.heap[k]?) (h : Bk P G On w g blk) : Bk P G' On' w' g blk := by
  cases blk with
  | var t cs =>
    obtain ⟨h1, h0, arr, h2, h3⟩ := h
    exact ⟨h1, h0, arr, (hm _ h1).trans h2, h3.imp fun _ _ h => h.stay hs⟩
  | row pn e ls => exact ⟨h.1, h.2.1.move hm, h.2.2⟩
  | ob o => exact ⟨h.1, h.2.1, (hm _ h.1).trans h.2.2⟩

/-- A draw turns nothing. -/
theorem Rel.drew (h : Rel P B w0 G On σ a w) : Rel P B w0 G On σ a w.drew := by
  have hs : Stay G On w G On w.drew := ⟨fun _ h => h, fun k hk => ⟨hk, rfl⟩, fun id _ => ⟨rfl, rfl, rfl, rfl, fun _ _ h => h⟩, fun _ _ _ _ _ _ h => h⟩
  exact ⟨h.bel.drew, h.base, h.sl.imp fun _ _ h => h.stay hs, fun id blk hb => ⟨(h.hp id blk hb).1, (h.hp id blk hb).2.stay hs fun _ _ => rfl⟩, h.own, h.dead, h.dis, h.df, h.an⟩
/-- More numbers given out. -/
theorem Rel.more (h : Rel P B w0 G On σ a w) (ho : ∀ id, On id → On' id) : Rel P B w0 G On' σ a w := by
  have hs : Stay G On w G On' w := ⟨ho, fun k hk => ⟨hk, rfl⟩, fun id _ => ⟨rfl, rfl, rfl, rfl, fun _ _ h => h⟩, fun _ _ _ _ _ _ h => h⟩
  exact ⟨h.bel, h.base, h.sl.imp fun _ _ h => h.stay hs, fun id blk hb => ⟨ho _ (h.hp id blk hb).1, (h.hp id blk hb).2.stay hs fun _ _ => rfl⟩, h.own, h.dead, h.dis, h.df, fun id hid => ⟨ho _ (h.an id hid).1, (h.an id hid).2⟩⟩
end

/-- A slot is written. -/
def putA (sl : List AV) (d : Option Nat) (x : AV) : List AV :=
  match d with
  | some d => sl.set d x
  | none => sl

theorem Rel.put {P : Program} {B : Fr} {w0 : World} {G : Gh} {On : Nat → Prop} {sl : List AV} {hp : Hp} {a : Act} {w : World} (h : Rel P B w0 G On ⟨sl, hp⟩ a w) (d : Option Nat) {x : AV} {v : Value} (hv : Vr P G On w x v) :
    Rel P B w0 G On ⟨putA sl d x, hp⟩ (a.put d v) w := by
  refine ⟨h.bel, h.base, ?_, h.hp, h.own, h.dead, h.dis, ?_, h.an⟩
  · cases d with
    | none => exact h.sl
    | some d => simpa [putA, Act.put] using h.sl.set d hv
  · cases d <;> exact h.df
end Go.Proofs.Ytekdfddodabfcaa
/- The engine, part C: how a described state turns: a new variable, a new row, a store, a row given away, memory that a call has made. -/
namespace Go.Proofs.Ytekdfddodabfcaa
open Go.RowKit
set_option linter.unusedVariables false
set_option linter.unusedSimpArgs false

section
variable {P : Program} {G G' : Gh} {On On' : Nat → Prop} {w w' : World} {B : Fr} {w0 : World} {sl : List AV} {hp hp' : Hp} {a : Act}

theorem Rel.turn (h : Rel P B w0 G On ⟨sl, hp⟩ a w) (hs : Stay G On w G' On' w') (hb : Kept B.keep w w')
    (hh : ∀ id blk, hget hp' id = some blk → On' id ∧ Bk P G' On' w' (G' id) blk)
    (own : ∀ id k, (G' id).S k → ¬ B.keep k ∧ k < w'.heap.size) (dead : ∀ id, hget hp' id = none → (∀ k, ¬ (G' id).S k) ∧ ∀ i j, ¬ (G' id).pin i j)
    (dis : ∀ id id' k, (G' id).S k → (G' id').S k → id = id') : Rel P B w0 G' On' ⟨sl, hp'⟩ a w' :=
  ⟨h.bel.trans hb, fun k hk => Nat.lt_of_lt_of_le (h.base k hk) hb.size, h.sl.imp fun _ _ h => h.stay hs, hh, own, dead, dis, h.df, fun id hid => by
    obtain ⟨h1, h2, h3, h4, h5⟩ := h.an id hid
    obtain ⟨g1, g2, g3, g4, _⟩ := hs.gb id h1
    exact ⟨hs.on id h1, g1.trans h2, g2.trans h3, g3.trans h4, g4.trans h5⟩⟩

/-- Blocks that lie behind all others turn nothing. -/
theorem Rel.below (h : Rel P B w0 G On ⟨sl, hp⟩ a w) (hb : Below w.heap.size w w') : Rel P B w0 G On ⟨sl, hp⟩ a w' := by
  have hlt : ∀ id k, (G id).S k → k < w.heap.size := fun id k hk => (h.own id k hk).2
  have hs : Stay G On w G On w' := by
    refine ⟨fun _ h => h, fun k hk => ⟨⟨Nat.lt_of_lt_of_le hk.1 hb.size, hk.2⟩, hb.block k hk.1⟩, fun id _ => ⟨rfl, rfl, rfl, rfl, fun _ _ h => h⟩, fun id i j v _ _ hc => ?_⟩
    rw [hb.cell (p := ⟨(G id).b, _, none⟩) (World.block_lt_of_cell? w _ hc)]; exact hc
  exact h.turn hs (.of hb h.base) (fun id blk hk => ⟨(h.hp id blk hk).1, (h.hp id blk hk).2.stay hs fun k hk => hb.block k (hlt id k hk)⟩)
    (fun id k hk => ⟨(h.own id k hk).1, Nat.lt_of_lt_of_le (h.own id k hk).2 hb.size⟩) h.dead h.dis

theorem fresh_none (h : Rel P B w0 G On ⟨sl, hp⟩ a w) {nid : Nat} (hn : ¬ On nid) : hget hp nid = none := by
  cases hg : hget hp nid with
  | none => rfl
  | some blk => exact absurd (h.hp nid blk hg).1 hn

def OnE (On : Nat → Prop) (E : List (Nat × Option AB)) : Nat → Prop := fun id => On id ∨ id ∈ E.map Prod.fst

/-- A new block of the call's own takes a number. -/
theorem Rel.fresh (h : Rel P B w0 G On ⟨sl, hp⟩ a w) {nid : Nat} (hn : ¬ On nid) (g : Gi) (blk : AB) (hlt : ∀ k, g.S k → w.heap.size ≤ k ∧ k < w'.heap.size) (hb : Below w.heap.size w w')
    (hblk : ∀ G' On', Stay G On w G' On' w' → On' nid → G' nid = g → Bk P G' On' w' g blk) :
    Rel P B w0 (G.upd nid g) (OnE On [(nid, some blk)]) ⟨sl, hput hp nid (some blk)⟩ a w' := by
  have hnone := fresh_none h hn
  have hs : Stay G On w (G.upd nid g) (OnE On [(nid, some blk)]) w' := by
    refine ⟨fun _ h => .inl h, fun k hk => ⟨⟨Nat.lt_of_lt_of_le hk.1 hb.size, fun id hS => ?_⟩, hb.block k hk.1⟩, fun id ho => ?_, fun id i j v _ _ hc => ?_⟩
    · by_cases e : id = nid
      · subst e; simp at hS; have := (hlt k hS).1; have := hk.1; omega
      · rw [G.upd_ne g e] at hS; exact hk.2 id hS
    · rw [G.upd_ne g (fun e : id = nid => hn (e ▸ ho))]; exact ⟨rfl, rfl, rfl, rfl, fun _ _ h => h⟩
    · rw [hb.cell (p := ⟨(G id).b, _, none⟩) (World.block_lt_of_cell? w _ hc)]; exact hc
  refine h.turn hs (.of hb h.base) (fun id x hk => ?_) (fun id k hk => ?_) (fun id hk => ?_) (fun id id' k h1 h2 => ?_)
  · by_cases e : id = nid
    · subst e
      rw [hget_hput_same] at hk
      obtain rfl := Option.some.inj hk
      rw [G.upd_same]
      exact ⟨.inr (by simp), hblk _ _ hs (.inr (by simp)) (G.upd_same id g)⟩
    · rw [hget_hput_ne _ _ e] at hk
      rw [G.upd_ne g e]
      exact ⟨.inl (h.hp id x hk).1, (h.hp id x hk).2.stay hs fun k hk => hb.block k (h.own id k hk).2⟩
  · by_cases e : id = nid
    · subst e; simp at hk; exact ⟨fun hB => by have := h.base k hB; have := (hlt k hk).1; omega, (hlt k hk).2⟩
    · rw [G.upd_ne g e] at hk; exact ⟨(h.own id k hk).1, Nat.lt_of_lt_of_le (h.own id k hk).2 hb.size⟩
  · by_cases e : id = nid
    · subst e; rw [hget_hput_same] at hk; simp at hk
    · rw [hget_hput_ne _ _ e] at hk; rw [G.upd_ne g e]; exact h.dead id hk
  · by_cases e : id = nid
    · by_cases e' : id' = nid
      · rw [e, e']
      · subst e; rw [G.upd_ne g e'] at h2; simp at h1; have := (hlt k h1).1; have := (h.own id' k h2).2; omega
    · by_cases e' : id' = nid
      · subst e'; rw [G.upd_ne g e] at h1; simp at h2; have := (hlt k h2).1; have := (h.own id k h1).2; omega
      · rw [G.upd_ne g e] at h1; rw [G.upd_ne g e'] at h2; exact h.dis id id' k h1 h2

theorem below_alloc1 (w : World) (o : Obj) : Below w.heap.size w (w.alloc o) := (Below.refl _ w).alloc (Nat.le_refl _) o

/-- A new variable. -/
theorem Rel.newVar (h : Rel P B w0 G On ⟨sl, hp⟩ a w) {nid : Nat} (hn : ¬ On nid) (t : Nat) (cs : List CV) (arr : Array Value) (hc : All2 (Cr P G On w) cs arr.toList) :
    ∃ G', Rel P B w0 G' (OnE On [(nid, some (.var t cs))]) ⟨sl, hput hp nid (some (.var t cs))⟩ a (w.alloc (.cells arr t)) ∧ (G' nid).b = w.heap.size := by
  refine ⟨_, h.fresh hn ⟨w.heap.size, false, 0, 0, fun k => k = w.heap.size, fun _ _ => False⟩ (.var t cs) (fun k hk => ?_) (below_alloc1 w _) fun G' On' hs _ _ => ?_, by simp⟩
  · subst hk; simp
  · exact ⟨rfl, fun _ _ h => h, arr, heap_alloc_new w _, hc.imp fun _ _ h => h.stay hs⟩

/-- A new row: one that a step has made, or a call has handed back. -/
theorem Rel.newRow (h : Rel P B w0 G On ⟨sl, hp⟩ a w) {nid : Nat} (hn : ¬ On nid) (hb : Below w.heap.size w w') {e : Nat} {ls : List (List DV)} {b cap : Nat} {nl : Bool}
    (hm : M P w' (fun k => w.heap.size ≤ k ∧ k < w'.heap.size) (.l e ls) (.slice (hd b nl) ls.length cap)) :
    ∃ G', Rel P B w0 G' (OnE On [(nid, some (.row true e ls))]) ⟨sl, hput hp nid (some (.row true e ls))⟩ a w' ∧ hd (G' nid).b (G' nid).nl = hd b nl ∧ (G' nid).cap = cap := by
  refine ⟨_, h.fresh hn ⟨b, nl, cap, szT P e, fun k => w.heap.size ≤ k ∧ k < w'.heap.size, fun i j => ∃ cs e ls', ls[i]? = some cs ∧ (cs[j]? = some (.l e ls') ∨ cs[j]? = some .no)⟩ (.row true e ls) (fun k hk => hk) hb fun G' On' hs _ _ => ?_, by simp, by simp⟩
  exact ⟨rfl, hm, fun _ _ => by simp⟩

/-- A block is given away: nobody speaks of it any more. -/
theorem Rel.free (h : Rel P B w0 G On ⟨sl, hp⟩ a w) (id : Nat) :
    Rel P B w0 (G.upd id { G id with S := fun _ => False, pin := fun _ _ => False }) On ⟨sl, hput hp id none⟩ a w := by
  have hsub : ∀ i k, ((G.upd id { G id with S := fun _ => False, pin := fun _ _ => False }) i).S k → (G i).S k := by
    intro i k hk
    by_cases e : i = id
    · subst e; simp at hk
    · rw [G.upd_ne _ e] at hk; exact hk
  have hs : Stay G On w (G.upd id { G id with S := fun _ => False, pin := fun _ _ => False }) On w := by
    refine ⟨fun _ h => h, fun k hk => ⟨⟨hk.1, fun i hS => hk.2 i (hsub i k hS)⟩, rfl⟩, fun i _ => ?_, fun _ _ _ _ _ _ h => h⟩
    by_cases e : i = id
    · subst e; simp
    · rw [G.upd_ne _ e]; exact ⟨rfl, rfl, rfl, rfl, fun _ _ h => h⟩
  refine h.turn hs (Kept.refl _ _) (fun i x hk => ?_) (fun i k hk => h.own i k (hsub i k hk)) (fun i hk => ?_) (fun i i' k h1 h2 => h.dis i i' k (hsub i k h1) (hsub i' k h2))
  · by_cases e : i = id
    · subst e; rw [hget_hput_same] at hk; cases hk
    · rw [hget_hput_ne _ _ e] at hk; rw [G.upd_ne _ e]
      exact ⟨(h.hp i x hk).1, (h.hp i x hk).2.stay hs fun _ _ => rfl⟩
  · by_cases e : i = id
    · subst e; simp
    · rw [hget_hput_ne _ _ e] at hk; rw [G.upd_ne _ e]; exact h.dead i hk

theorem heap_setCell_same (w : World) (b o : Nat) (v : Value) {arr : Array Value} {t : Nat} {fz : Nat × Nat} (h : w.heap[b]? = some (.cells arr t fz)) :
    (w.setCell ⟨b, o, none⟩ v).heap[b]? = some (.cells (arr.setIfInBounds o v) t fz) := by
  simp only [World.setCell, Array.getElem?_modify, h]
  simp

/-- The block of a row that has slices in it is its own. -/
theorem pin_own (h : Rel P B w0 G On ⟨sl, hp⟩ a w) {id i j : Nat} (hp' : (G id).pin i j) : (G id).S (G id).b ∧ ∃ e ls, hget hp id = some (.row true e ls) := by
  cases hg : hget hp id with
  | none => exact absurd hp' ((h.dead id hg).2 i j)
  | some blk =>
    cases blk with
    | var t cs => exact absurd hp' ((h.hp id _ hg).2.2.1 i j)
    | ob o => exact absurd hp' ((h.hp id _ hg).2.2.1 i j)
    | row pn e ls =>
      obtain ⟨_, hm, hpin⟩ := (h.hp id _ hg).2
      obtain ⟨rfl, cs, _, _, h1, _⟩ := (hpin i j).1 hp'
      refine ⟨?_, e, ls, rfl⟩
      cases hnl : (G id).nl with
      | true =>
        rw [hnl] at hm
        have : ls = [] := by generalize hv : Value.slice (hd (G id).b true) ls.length (G id).cap = v at hm; cases hm <;> simp_all [hd]
        rw [this] at h1; simp at h1
      | false =>
        rw [hnl] at hm
        generalize hv : Value.slice (hd (G id).b false) ls.length (G id).cap = v at hm
        cases hm with
        | nil => simp [hd] at hv
        | l h1 => simp [hd] at hv; rw [hv.1]; exact h1

/-- A store into a variable. -/
theorem setVar_stay (h : Rel P B w0 G On ⟨sl, hp⟩ a w) {id t : Nat} {cs : List CV} (hg : hget hp id = some (.var t cs)) (off : Nat) (v : Value) :
    Stay G On w G On (w.setCell ⟨(G id).b, off, none⟩ v) := by
  obtain ⟨ho, hS, hnp, arr, hh, hc⟩ := h.hp id _ hg
  have hne : ∀ i k, (G i).S k → i ≠ id → k ≠ (G id).b := fun i k hk e e' => e (h.dis i id k hk (e' ▸ hS))
  refine ⟨fun _ h => h, fun k hk => ⟨⟨by simpa [World.setCell] using hk.1, hk.2⟩, Below.heap_setCell _ _ _ _ (fun e => hk.2 id (e ▸ hS))⟩, fun i _ => ⟨rfl, rfl, rfl, rfl, fun _ _ h => h⟩, fun i j j' u _ hp' hcl => ?_⟩
  have hi : i ≠ id := fun e => hnp j j' (e ▸ hp')
  have hb := hne i _ (pin_own h hp').1 hi
  rw [World.cell?_of_block (w := w) (Below.heap_setCell w _ v _ hb)]; exact hcl
theorem Rel.setVar (h : Rel P B w0 G On ⟨sl, hp⟩ a w) {id t : Nat} {cs : List CV} (hg : hget hp id = some (.var t cs)) (off : Nat) {c : CV} {v : Value} (hv : Cr P G On w c v) :
    Rel P B w0 G On ⟨sl, hput hp id (some (.var t (cs.set off c)))⟩ a (w.setCell ⟨(G id).b, off, none⟩ v) := by
  have hs := setVar_stay h hg off v
  obtain ⟨ho, hS, hnp, arr, hh, hc⟩ := h.hp id _ hg
  have hne : ∀ i k, (G i).S k → i ≠ id → k ≠ (G id).b := fun i k hk e e' => e (h.dis i id k hk (e' ▸ hS))
  refine h.turn hs (.setCell (h.own id _ hS).1 v) (fun i x hk => ?_) (fun i k hk => by have := h.own i k hk; simpa [World.setCell] using this) (fun i hk => ?_) h.dis
  · by_cases e : i = id
    · subst e
      rw [hget_hput_same] at hk
      obtain rfl := Option.some.inj hk
      refine ⟨ho, hS, hnp, arr.setIfInBounds off v, heap_setCell_same w _ off v hh, ?_⟩
      rw [Array.toList_setIfInBounds]
      exact (hc.imp fun _ _ h => h.stay hs).set off (hv.stay hs)
    · rw [hget_hput_ne _ _ e] at hk
      exact ⟨(h.hp i x hk).1, (h.hp i x hk).2.stay hs fun k hS' => Below.heap_setCell _ _ _ _ (hne i k hS' e)⟩
  · by_cases e : i = id
    · subst e; rw [hget_hput_same] at hk; cases hk
    · rw [hget_hput_ne _ _ e] at hk; exact h.dead i hk
end
end Go.Proofs.Ytekdfddodabfcaa
/- The engine, part D: rows: what an append does to a row that the call owns, and a store into one. -/
namespace Go.Proofs.Ytekdfddodabfcaa
open Go.RowKit
set_option linter.unusedVariables false
set_option linter.unusedSimpArgs false

section
variable {P : Program} {w w' : World} {S T : Nat → Prop}

/-- What a row's own value and memory look like. -/
theorem M.inv {e : Nat} {ls : List (List DV)} {b cap n : Nat} {nl : Bool} (h : M P w S (.l e ls) (.slice (hd b nl) n cap)) :
    n = ls.length ∧ ((nl = true ∧ ls = [] ∧ cap = 0) ∨
      (nl = false ∧ ∃ (arr : Array Value) (vals : Nat → Nat → Value) (F : Nat → Nat → Nat → Prop), S b ∧ (∀ i j k, F i j k → S k ∧ k ≠ b) ∧ (∀ i j i' j' k, F i j k → F i' j' k → i = i' ∧ j = j') ∧
        w.heap[b]? = some (.cells arr e (0, 0)) ∧ ls.length ≤ cap ∧ cap ≤ maxLen ∧ cap * szT P e ≤ arr.size ∧
        (∀ (i : Nat) cs, ls[i]? = some cs → cs.length = szT P e) ∧
        (∀ (i : Nat) cs (j : Nat) d, ls[i]? = some cs → cs[j]? = some d → arr[i * szT P e + j]? = some (vals i j)) ∧
        (∀ (i : Nat) cs (j : Nat) d, ls[i]? = some cs → cs[j]? = some d → M P w (F i j) d (vals i j)))) := by
  generalize hv : Value.slice (hd b nl) n cap = v at h
  cases h with
  | nil =>
    cases nl <;> simp [hd] at hv
    obtain ⟨rfl, rfl⟩ := hv
    simp
  | @l S e ls b' cap' arr vals F h1 h2 h3 h4 h5 h6 h7 h8 h9 h10 =>
    cases nl <;> simp [hd] at hv
    obtain ⟨rfl, rfl, rfl⟩ := hv
    exact ⟨rfl, .inr ⟨rfl, arr, vals, F, h1, h2, h3, h4, h5, h6, h7, h8, h9, h10⟩⟩

theorem idx_lt {i j n sz : Nat} (hi : i < n) (hj : j < sz) : i * sz + j < n * sz := by
  have : (i + 1) * sz ≤ n * sz := Nat.mul_le_mul_right _ hi
  rw [Nat.add_mul] at this; omega
theorem idx_inj {i j i' j' sz : Nat} (hj : j < sz) (hj' : j' < sz) (h : i * sz + j = i' * sz + j') : i = i' ∧ j = j' := by
  have h1 : (i * sz + j) / sz = i := by rw [Nat.add_comm, Nat.add_mul_div_right _ _ (by omega), Nat.div_eq_of_lt hj]; omega
  have h2 : (i' * sz + j') / sz = i' := by rw [Nat.add_comm, Nat.add_mul_div_right _ _ (by omega), Nat.div_eq_of_lt hj']; omega
  have : i = i' := by rw [← h1, ← h2, h]
  subst this
  exact ⟨rfl, by omega⟩

/-- The world behind an append: all but the row's own block stays. -/
structure Grew (w w' : World) (b : Option Nat) : Prop where
  os : w'.os = w.os
  tape : w'.tape = w.tape
  output : w'.output = w.output
  size : w.heap.size ≤ w'.heap.size
  block : ∀ k, k < w.heap.size → some k ≠ b → w'.heap[k]? = w.heap[k]?

/-- New elements, as they lie before they are appended: their cells, and what they own. -/
structure News (P : Program) (w : World) (e : Nat) (T : Nat → Prop) (ns : List (List DV)) (news : List Value) (vals : Nat → Nat → Value) (F : Nat → Nat → Nat → Prop) : Prop where
  len : news.length = ns.length * szT P e
  cs : ∀ (i : Nat) cs, ns[i]? = some cs → cs.length = szT P e
  at_ : ∀ (i : Nat) cs (j : Nat) d, ns[i]? = some cs → cs[j]? = some d → news[i * szT P e + j]? = some (vals i j)
  own : ∀ (i : Nat) cs (j : Nat) d, ns[i]? = some cs → cs[j]? = some d → M P w (F i j) d (vals i j)
  sub : ∀ i j k, F i j k → T k ∧ k < w.heap.size
  dis : ∀ i j i' j' k, F i j k → F i' j' k → i = i' ∧ j = j'
  one : ∀ u ∈ news, u.oneCell' = true

/-- The row that comes of it. -/
theorem M.joined {e : Nat} {ls ns : List (List DV)} {b cap : Nat} {arr arr' : Array Value} {news : List Value} {vals0 vals : Nat → Nat → Value} {F0 F : Nat → Nat → Nat → Prop} {Bn : Nat → Prop}
    (hn : News P w e T ns news vals F)
    (f0 : ∀ i j k, F0 i j k → S k) (d0 : ∀ i j i' j' k, F0 i j k → F0 i' j' k → i = i' ∧ j = j')
    (h8 : ∀ (i : Nat) cs, ls[i]? = some cs → cs.length = szT P e)
    (h9 : ∀ (i : Nat) cs (j : Nat) d, ls[i]? = some cs → cs[j]? = some d → arr[i * szT P e + j]? = some (vals0 i j))
    (h10 : ∀ (i : Nat) cs (j : Nat) d, ls[i]? = some cs → cs[j]? = some d → M P w (F0 i j) d (vals0 i j))
    (hst : ∀ k, S k → ¬ T k) (hb' : Bn b) (hbs : ∀ i j, ¬ F0 i j b) (hbt : ¬ T b)
    (hkeep : ∀ k, (∃ i j, F0 i j k) ∨ T k ∧ k < w.heap.size → w'.heap[k]? = w.heap[k]?)
    (hh : w'.heap[b]? = some (.cells arr' e (0, 0))) (hcap : ls.length + ns.length ≤ cap) (hmx : cap ≤ maxLen) (hsz : cap * szT P e ≤ arr'.size)
    (hold : ∀ q, q < ls.length * szT P e → arr'[q]? = arr[q]?) (hnew : ∀ q, q < ns.length * szT P e → arr'[ls.length * szT P e + q]? = news[q]?)
    (hb : ∀ k, S k ∨ T k → Bn k) :
    M P w' Bn (.l e (ls ++ ns)) (.slice (some ⟨b, 0, none⟩) (ls.length + ns.length) cap) := by
  have hlen : ls.length + ns.length = (ls ++ ns).length := by simp
  rw [hlen]
  have key : ∀ (i : Nat) cs, (ls ++ ns)[i]? = some cs → (i < ls.length ∧ ls[i]? = some cs) ∨ (ls.length ≤ i ∧ ns[i - ls.length]? = some cs) := by
    intro i cs h
    by_cases hi : i < ls.length
    · rw [List.getElem?_append_left hi] at h; exact .inl ⟨hi, h⟩
    · rw [List.getElem?_append_right (by omega)] at h; exact .inr ⟨by omega, h⟩
  refine .l (arr := arr') (vals := fun i j => if i < ls.length then vals0 i j else vals (i - ls.length) j) (F := fun i j => if i < ls.length then F0 i j else F (i - ls.length) j)
    hb' (fun i j k hk => ?_) (fun i j i' j' k h1 h2 => ?_) hh (by simpa using hcap) hmx hsz (fun i cs h => ?_) (fun i cs j d h h' => ?_) (fun i cs j d h h' => ?_)
  · by_cases hi : i < ls.length
    · simp only [hi, if_true] at hk; exact ⟨hb k (.inl (f0 _ _ _ hk)), fun e => hbs i j (e ▸ hk)⟩
    · simp only [hi, if_false] at hk; exact ⟨hb k (.inr (hn.sub _ _ _ hk).1), fun e => hbt (e ▸ (hn.sub _ _ _ hk).1)⟩
  · by_cases hi : i < ls.length <;> by_cases hi' : i' < ls.length <;> simp only [hi, hi', if_true, if_false] at h1 h2
    · exact d0 _ _ _ _ _ h1 h2
    · exact absurd (hn.sub _ _ _ h2).1 (hst k (f0 _ _ _ h1))
    · exact absurd (hn.sub _ _ _ h1).1 (hst k (f0 _ _ _ h2))
    · have := hn.dis _ _ _ _ _ h1 h2; exact ⟨by omega, this.2⟩
  · rcases key i cs h with ⟨_, h⟩ | ⟨_, h⟩
    · exact h8 i cs h
    · exact hn.cs _ cs h
  · rcases key i cs h with ⟨hi, h⟩ | ⟨hi, h⟩
    · have hj : j < szT P e := by rw [← h8 i cs h]; exact (List.getElem?_eq_some_iff.1 h').1
      simp only [hi, if_true]
      rw [hold _ (idx_lt hi hj)]
      exact h9 i cs j d h h'
    · have hj : j < szT P e := by rw [← hn.cs _ cs h]; exact (List.getElem?_eq_some_iff.1 h').1
      have hi2 : i - ls.length < ns.length := (List.getElem?_eq_some_iff.1 h).1
      have : i * szT P e + j = ls.length * szT P e + ((i - ls.length) * szT P e + j) := by
        rw [← Nat.add_assoc, ← Nat.add_mul]; congr 2; omega
      simp only [show ¬ i < ls.length from by omega, if_false]
      rw [this, hnew _ (idx_lt hi2 hj)]
      exact hn.at_ _ cs j d h h'
  · rcases key i cs h with ⟨hi, h⟩ | ⟨hi, h⟩
    · simp only [hi, if_true]
      exact (h10 i cs j d h h').move fun k hk => hkeep k (.inl ⟨_, _, hk⟩)
    · simp only [show ¬ i < ls.length from by omega, if_false]
      exact (hn.own _ cs j d h h').move fun k hk => hkeep k (.inr (hn.sub _ _ _ hk))
end
end Go.Proofs.Ytekdfddodabfcaa
/- The engine, part E: append, run. -/
namespace Go.Proofs.Ytekdfddodabfcaa
open Go.RowKit
set_option linter.unusedVariables false
set_option linter.unusedSimpArgs false

section
variable {P : Program} {w w' : World} {S T : Nat → Prop}

/-- Where appended cells are read. -/
def Src (w : World) (src : Option Addr) (m c : Nat) (news : List Value) : Prop :=
  (src = none ∧ m = 0 ∧ c = 0 ∧ news = []) ∨ ∃ ad, src = some ad ∧ ∀ (j : Nat) u, news[j]? = some u → w.cell? (ad.add j) = some u

def rowOf (b : Nat) (nl : Bool) : Option Nat := if nl then none else some b

theorem Grew.refl (w : World) (b : Option Nat) : Grew w w b := ⟨rfl, rfl, rfl, Nat.le_refl _, fun _ _ _ => rfl⟩

theorem run_app (t ty e : TypeId) (i : TypeInfo) (z : Value) (ht : P.underlying t = some (.slice e)) (hi : P.info? e = some i) (hz : i.zero = some z) (hzs : z.cells.size = i.size) (hsz : 0 < szT P e)
    {ls ns : List (List DV)} {b cap : Nat} {nl : Bool} (hm : M P w S (.l e ls) (.slice (hd b nl) ls.length cap)) (hS : ∀ k, S k → k < w.heap.size)
    {news : List Value} {vals : Nat → Nat → Value} {F : Nat → Nat → Nat → Prop} (hn : News P w e T ns news vals F) (hst : ∀ k, S k → ¬ T k) (hT : ∀ k, T k → k < w.heap.size)
    {src : Option Addr} {c : Nat} (hs : Src w src ns.length c news) (h63 : ls.length + ns.length ≤ maxLen) (hby : (ls.length + ns.length) * i.bytes ≤ 140737488355328) :
    ∃ b' nl' cap' w', (Builtin.append_ #[t, t] ty #[.slice (hd b nl) ls.length cap, .slice src ns.length c]).run P w = .ok (.slice (hd b' nl') (ls.length + ns.length) cap') w' ∧
      M P w' (fun k => S k ∨ T k ∨ (w.heap.size ≤ k ∧ k < w'.heap.size)) (.l e (ls ++ ns)) (.slice (hd b' nl') (ls.length + ns.length) cap') ∧ Grew w w' (rowOf b nl) := by
  have hsz' : szT P e = i.size := by simp [szT, hi]
  have hsmall : ls.length + ns.length ≤ 9223372036854775807 := by simp only [maxLen] at h63; omega
  have hnl : news.length = ns.length * i.size := by rw [← hsz']; exact hn.len
  obtain ⟨-, hcase⟩ := hm.inv
  rcases hcase with ⟨rfl, rfl, rfl⟩ | ⟨rfl, arr, vals0, F0, h1, h2, h3, h4, h5, h6, h7, h8, h9, h10⟩
  · simp only [List.length_nil, Nat.zero_add, List.nil_append, hd, if_true] at h63 hby hsmall ⊢
    rcases Nat.eq_zero_or_pos ns.length with h0 | h0
    · have : ns = [] := List.eq_nil_of_length_eq_zero h0
      subst this
      have hnews : news = [] := List.eq_nil_of_length_eq_zero (by simpa using hnl)
      subst hnews
      refine ⟨0, true, 0, w, ?_, .nil, Grew.refl _ _⟩
      rcases hs with ⟨rfl, _, rfl, _⟩ | ⟨ad, rfl, _⟩ <;>
        simp [Builtin.append_, run_underlying ht, sizeOf, typeInfo, hi, Builtin.lenOf, Builtin.firstCells, loadCells, loadCellsFrom, hd]
    · rcases hs with ⟨_, h, _⟩ | ⟨ad, rfl, hnews⟩
      · omega
      · have hr := run_append_nil (P := P) w t ty e i z ht hi hz ad ns.length c news hnl hnews h0 (by omega) (by omega)
        have hge := grownCap_ge w ns.length 0 e
        have hcm := grownCap_le_maxLen w ns.length 0 e h63
        refine ⟨w.heap.size, false, _, _, hr, ?_, ⟨rfl, rfl, rfl, by simp, fun k hk _ => Below.heap_alloc w.drew _ k hk⟩⟩
        have hj := M.joined (P := P) (w := w) (w' := w.drew.alloc (.cells (news.toArray ++ Builtin.zeroCells z.cells (grownCap w ns.length 0 e - ns.length)) e)) (S := fun _ => False) (T := T) (e := e) (ls := []) (ns := ns)
          (b := w.heap.size) (cap := grownCap w ns.length 0 e) (arr := #[]) (arr' := news.toArray ++ Builtin.zeroCells z.cells (grownCap w ns.length 0 e - ns.length)) (news := news) (vals0 := fun _ _ => undef) (vals := vals) (F0 := fun _ _ _ => False) (F := F)
          (Bn := fun k => S k ∨ T k ∨ (w.heap.size ≤ k ∧ k < (w.drew.alloc (.cells (news.toArray ++ Builtin.zeroCells z.cells (grownCap w ns.length 0 e - ns.length)) e)).heap.size)) hn
          (fun _ _ _ h => h) (fun _ _ _ _ _ h => h.elim) (by simp) (by simp) (by simp) (fun _ h => h.elim) (.inr (.inr (by simp))) (by simp) (fun h => Nat.lt_irrefl _ (hT _ h))
          (fun k hk => by rcases hk with ⟨_, _, h⟩ | h; exact h.elim; exact Below.heap_alloc w.drew _ k h.2) (heap_alloc_new w.drew _) (by simpa using hge) hcm
          (by simp only [Array.size_append, List.size_toArray, size_zeroCells, hzs, hnl, hsz', ← Nat.add_mul]; exact Nat.mul_le_mul_right _ (by omega)) (by simp)
          (fun q hq => by simp only [List.length_nil, Nat.zero_mul, Nat.zero_add]; rw [Array.getElem?_append_left (by simpa [hnl, ← hsz'] using hq)]; simp)
          (fun k hk => by rcases hk with h | h; exact h.elim; exact .inr (.inl h))
        simpa [hd] using hj
  · simp only [hd, Bool.false_eq_true, if_false] at ⊢
    have hF0 : ∀ i j k, F0 i j k → S k := fun i j k h => (h2 i j k h).1
    have hb : b < w.heap.size := hS b h1
    by_cases hroom : ls.length + ns.length ≤ cap
    · rcases hs with ⟨rfl, h0, rfl, rfl⟩ | ⟨ad, rfl, hnews⟩
      · have : ns = [] := List.eq_nil_of_length_eq_zero h0
        subst this
        refine ⟨b, false, cap, w, ?_, ?_, Grew.refl _ _⟩
        · simp [Builtin.append_, run_underlying ht, sizeOf, typeInfo, hi, Builtin.lenOf, Builtin.firstCells, hd, h5, storeCells]
        · simpa [hd] using hm.mono fun k hk => .inl hk
      · have hfit : ls.length * i.size + news.length ≤ arr.size := by rw [hnl, ← Nat.add_mul]; rw [hsz'] at h7; exact Nat.le_trans (Nat.mul_le_mul_right _ hroom) h7
        have hr := run_append_room (P := P) w t ty e i ht hi b ls.length cap arr h4 ad ns.length c news hnl hnews hn.one hroom hfit
        refine ⟨b, false, cap, _, hr, ?_, ⟨rfl, rfl, rfl, by simp, fun k _ hk => setRow_other w b k _ (fun e => hk (by simp [rowOf, e]))⟩⟩
        have hj := M.joined (P := P) (w := w) (w' := w.setRow b (arr.toList.take (ls.length * i.size) ++ news ++ arr.toList.drop (ls.length * i.size + news.length)).toArray) (S := S) (T := T) (e := e) (ls := ls) (ns := ns)
          (b := b) (cap := cap) (arr := arr) (arr' := (arr.toList.take (ls.length * i.size) ++ news ++ arr.toList.drop (ls.length * i.size + news.length)).toArray) (news := news) (vals0 := vals0) (vals := vals) (F0 := F0) (F := F)
          (Bn := fun k => S k ∨ T k ∨ (w.heap.size ≤ k ∧ k < (w.setRow b (arr.toList.take (ls.length * i.size) ++ news ++ arr.toList.drop (ls.length * i.size + news.length)).toArray).heap.size)) hn
          hF0 h3 h8 h9 h10 hst (.inl h1) (fun i j h => (h2 i j b h).2 rfl) (hst b h1)
          (fun k hk => setRow_other w b k _ (fun e => by rcases hk with ⟨i, j, h⟩ | h; exact (h2 i j k h).2 e; exact hst b h1 (e ▸ h.1))) (setRow_heap w b arr _ e _ h4) hroom h6
          (by simp only [List.size_toArray, List.length_append, List.length_take, List.length_drop, Array.length_toList]; omega)
          (fun q hq => by
            rw [hsz'] at hq
            simp only [List.getElem?_toArray, List.append_assoc]
            rw [List.getElem?_append_left (by simp; omega), List.getElem?_take]
            simp [hq])
          (fun q hq => by
            rw [hsz'] at hq ⊢
            simp only [List.getElem?_toArray]
            rw [List.getElem?_append_left (by simp; omega), List.getElem?_append_right (by simp; omega)]
            congr 1; simp; omega)
          (fun k hk => by rcases hk with h | h; exact .inl h; exact .inr (.inl h))
        simpa [hd] using hj
    · rcases hs with ⟨rfl, h0, rfl, rfl⟩ | ⟨ad, rfl, hnews⟩
      · omega
      · have holds : ∀ (j : Nat) v, (arr.toList.take (ls.length * i.size))[j]? = some v → w.cell? ((⟨b, 0, none⟩ : Addr).add j) = some v := by
          intro j v hv
          rw [Addr.add_lit, cell_of_row w b (0 + j) arr e (0, 0) h4, Nat.zero_add]
          rw [List.getElem?_take] at hv
          split at hv
          · simpa using hv
          · cases hv
        have hlo : (arr.toList.take (ls.length * i.size)).length = ls.length * i.size := by
          simp only [List.length_take, Array.length_toList]
          rw [hsz'] at h7
          exact Nat.min_eq_left (Nat.le_trans (Nat.mul_le_mul_right _ h5) h7)
        have hr := run_append_grow (P := P) w t ty e i z ht hi hz ⟨b, 0, none⟩ ls.length cap (arr.toList.take (ls.length * i.size)) hlo holds ad ns.length c news hnl hnews (by omega) (by omega) (growslice_fits (by omega) hby)
        have hge := grownCap_ge w (ls.length + ns.length) cap e
        have hcm := grownCap_le_maxLen w (ls.length + ns.length) cap e h63
        refine ⟨w.heap.size, false, _, _, hr, ?_, ⟨rfl, rfl, rfl, by simp, fun k hk _ => Below.heap_alloc w.drew _ k hk⟩⟩
        have hj := M.joined (P := P) (w := w) (w' := w.drew.alloc (.cells ((arr.toList.take (ls.length * i.size)).toArray ++ news.toArray ++ Builtin.zeroCells z.cells (grownCap w (ls.length + ns.length) cap e - (ls.length + ns.length))) e)) (S := S) (T := T) (e := e) (ls := ls) (ns := ns)
          (b := w.heap.size) (cap := grownCap w (ls.length + ns.length) cap e) (arr := arr) (arr' := (arr.toList.take (ls.length * i.size)).toArray ++ news.toArray ++ Builtin.zeroCells z.cells (grownCap w (ls.length + ns.length) cap e - (ls.length + ns.length))) (news := news) (vals0 := vals0) (vals := vals) (F0 := F0) (F := F)
          (Bn := fun k => S k ∨ T k ∨ (w.heap.size ≤ k ∧ k < (w.drew.alloc (.cells ((arr.toList.take (ls.length * i.size)).toArray ++ news.toArray ++ Builtin.zeroCells z.cells (grownCap w (ls.length + ns.length) cap e - (ls.length + ns.length))) e)).heap.size)) hn
          hF0 h3 h8 h9 h10 hst (.inr (.inr (by simp))) (fun i j h => Nat.lt_irrefl _ (hS _ (hF0 _ _ _ h))) (fun h => Nat.lt_irrefl _ (hT _ h))
          (fun k hk => by rcases hk with ⟨i, j, h⟩ | h; exact Below.heap_alloc w.drew _ k (hS k (hF0 _ _ _ h)); exact Below.heap_alloc w.drew _ k h.2) (heap_alloc_new w.drew _) hge hcm
          (by simp only [Array.size_append, List.size_toArray, size_zeroCells, hzs, hlo, hnl, hsz', ← Nat.add_mul]; exact Nat.mul_le_mul_right _ (by omega))
          (fun q hq => by
            rw [hsz'] at hq
            rw [Array.append_assoc, Array.getElem?_append_left (by simp only [List.size_toArray, hlo]; exact hq)]
            simp only [List.getElem?_toArray, List.getElem?_take]
            simp [hq])
          (fun q hq => by
            rw [hsz'] at hq ⊢
            rw [Array.getElem?_append_left (by simp only [Array.size_append, List.size_toArray, hlo, hnl]; omega), Array.getElem?_append_right (by simp only [List.size_toArray, hlo]; omega)]
            simp only [List.size_toArray, hlo, List.getElem?_toArray]
            congr 1; omega)
          (fun k hk => by rcases hk with h | h; exact .inl h; exact .inr (.inl h))
        simpa [hd] using hj
end
end Go.Proofs.Ytekdfddodabfcaa
/- The engine, part F: rows that take the place of rows; what an append makes of a described state. -/
namespace Go.Proofs.Ytekdfddodabfcaa
open Go.RowKit
set_option linter.unusedVariables false
set_option linter.unusedSimpArgs false

def happly (hp : Hp) (E : List (Nat × Option AB)) : Hp := E.foldl (fun hp x => hput hp x.1 x.2) hp
@[simp] theorem happly_nil (hp : Hp) : happly hp [] = hp := rfl
@[simp] theorem happly_cons (hp : Hp) (x : Nat × Option AB) (E : List (Nat × Option AB)) : happly hp (x :: E) = happly (hput hp x.1 x.2) E := rfl
def drops (R : List Nat) : List (Nat × Option AB) := R.map fun id => (id, none)
theorem hget_drops (R : List Nat) (hp : Hp) (id : Nat) : hget (happly hp (drops R)) id = if id ∈ R then none else hget hp id := by
  induction R generalizing hp with
  | nil => simp [drops]
  | cons r R ih =>
    have := ih (hput hp r none)
    simp only [drops, List.map_cons, happly_cons] at this ⊢
    rw [this, hget_hput]
    by_cases h1 : id ∈ R <;> by_cases h2 : id = r <;> simp [h1, h2]
theorem happly_append (hp : Hp) (E E' : List (Nat × Option AB)) : happly hp (E ++ E') = happly (happly hp E) E' := by simp [happly]

section
variable {P : Program} {G G' : Gh} {On On' : Nat → Prop} {w w' : World} {B : Fr} {w0 : World} {sl : List AV} {hp hp' : Hp} {a : Act}

/-- Rows (R) go, a new one (nid) comes, in memory that was theirs or is new. -/
theorem Rel.swap (h : Rel P B w0 G On ⟨sl, hp⟩ a w) {nid : Nat} (hn : ¬ On nid) (R : List Nat)
    (hos : w'.os = w.os) (htape : w'.tape = w.tape) (hout : w'.output = w.output) (hsize : w.heap.size ≤ w'.heap.size)
    (hkeep : ∀ k, k < w.heap.size → (∀ id, id ∈ R → ¬ (G id).S k) → w'.heap[k]? = w.heap[k]?)
    {e : Nat} {ls : List (List DV)} {b cap : Nat} {nl : Bool} {Sn : Nat → Prop} (pn : Bool)
    (hm : M P w' Sn (.l e ls) (.slice (hd b nl) ls.length cap)) (hSn : ∀ k, Sn k → (∃ id, id ∈ R ∧ (G id).S k) ∨ (w.heap.size ≤ k ∧ k < w'.heap.size)) :
    ∃ G', Rel P B w0 G' (OnE On (drops R ++ [(nid, some (.row pn e ls))])) ⟨sl, happly hp (drops R ++ [(nid, some (.row pn e ls))])⟩ a w' ∧ hd (G' nid).b (G' nid).nl = hd b nl ∧ (G' nid).cap = cap := by
  let gn : Gi := ⟨b, nl, cap, szT P e, Sn, fun i j => pn = true ∧ ∃ cs e ls', ls[i]? = some cs ∧ (cs[j]? = some (.l e ls') ∨ cs[j]? = some .no)⟩
  let G' : Gh := fun id => if id = nid then gn else if id ∈ R then { G id with S := fun _ => False, pin := fun _ _ => False } else G id
  have gN : G' nid = gn := by simp [G']
  have gR : ∀ id, id ≠ nid → id ∈ R → G' id = { G id with S := fun _ => False, pin := fun _ _ => False } := fun id h1 h2 => by simp [G', h1, h2]
  have gO : ∀ id, id ≠ nid → id ∉ R → G' id = G id := fun id h1 h2 => by simp [G', h1, h2]
  have hget' : ∀ id, hget (happly hp (drops R ++ [(nid, some (.row pn e ls))])) id = if id = nid then some (.row pn e ls) else if id ∈ R then none else hget hp id := by
    intro id
    rw [happly_append]
    simp only [happly_cons, happly_nil]
    rw [hget_hput, hget_drops]
  have hSlt : ∀ id k, (G id).S k → k < w.heap.size := fun id k hk => (h.own id k hk).2
  have hb : Kept B.keep w w' := ⟨hos, htape, hout, hsize, fun k hk => hkeep k (h.base k hk) fun id _ hS => (h.own id k hS).1 hk⟩
  have hsame : ∀ id k, id ∉ R → (G id).S k → w'.heap[k]? = w.heap[k]? := fun id k hR hS => hkeep k (hSlt id k hS) fun id' hR' hS' => hR (h.dis id id' k hS hS' ▸ hR')
  have hsub : ∀ id k, id ≠ nid → (G' id).S k → id ∉ R ∧ (G id).S k := by
    intro id k hne hS
    by_cases hR : id ∈ R
    · rw [gR id hne hR] at hS; exact hS.elim
    · rw [gO id hne hR] at hS; exact ⟨hR, hS⟩
  have hOn : ∀ id, On id → OnE On (drops R ++ [(nid, some (.row pn e ls))]) id := fun _ h => .inl h
  have hs : Stay G On w G' (OnE On (drops R ++ [(nid, some (.row pn e ls))])) w' := by
    refine ⟨hOn, fun k hk => ⟨⟨Nat.lt_of_lt_of_le hk.1 hsize, fun id hS => ?_⟩, hkeep k hk.1 fun id _ => hk.2 id⟩, fun id ho => ?_, fun id i j v ho hp' hc => ?_⟩
    · by_cases e : id = nid
      · subst e; rw [gN] at hS
        rcases hSn k hS with ⟨id', _, h'⟩ | h'
        · exact hk.2 id' h'
        · have := hk.1; omega
      · exact hk.2 id (hsub id k e hS).2
    · have hne : id ≠ nid := fun e => hn (e ▸ ho)
      by_cases hR : id ∈ R
      · rw [gR id hne hR]; exact ⟨rfl, rfl, rfl, rfl, fun _ _ h => h.elim⟩
      · rw [gO id hne hR]; exact ⟨rfl, rfl, rfl, rfl, fun _ _ h => h⟩
    · have hne : id ≠ nid := fun e => hn (e ▸ ho)
      by_cases hR : id ∈ R
      · rw [gR id hne hR] at hp'; exact hp'.elim
      · rw [gO id hne hR] at hp'
        rw [World.cell?_of_block (w := w) (hsame id _ hR (pin_own h hp').1)]; exact hc
  refine ⟨G', h.turn hs hb (fun id x hk => ?_) (fun id k hk => ?_) (fun id hk => ?_) (fun id id' k h1 h2 => ?_), by rw [gN], by rw [gN]⟩
  · rw [hget'] at hk
    by_cases e : id = nid
    · subst e
      rw [if_pos rfl] at hk
      obtain rfl := Option.some.inj hk
      rw [gN]
      exact ⟨.inr (by simp), rfl, hm, fun _ _ => Iff.rfl⟩
    · rw [if_neg e] at hk
      by_cases hR : id ∈ R
      · rw [if_pos hR] at hk; cases hk
      · rw [if_neg hR] at hk
        rw [gO id e hR]
        exact ⟨.inl (h.hp id x hk).1, (h.hp id x hk).2.stay hs fun k hS => hsame id k hR hS⟩
  · by_cases e : id = nid
    · subst e; rw [gN] at hk
      rcases hSn k hk with ⟨id', _, h'⟩ | h'
      · exact ⟨(h.own id' k h').1, Nat.lt_of_lt_of_le (h.own id' k h').2 hsize⟩
      · exact ⟨fun hB => by have := h.base k hB; have := h'.1; omega, h'.2⟩
    · have := h.own id k (hsub id k e hk).2; exact ⟨this.1, Nat.lt_of_lt_of_le this.2 hsize⟩
  · rw [hget'] at hk
    by_cases e : id = nid
    · subst e; rw [if_pos rfl] at hk; cases hk
    · rw [if_neg e] at hk
      by_cases hR : id ∈ R
      · rw [gR id e hR]; exact ⟨fun _ h => h, fun _ _ h => h⟩
      · rw [if_neg hR] at hk; rw [gO id e hR]; exact h.dead id hk
  · by_cases e : id = nid
    · by_cases e' : id' = nid
      · rw [e, e']
      · subst e; rw [gN] at h1
        obtain ⟨hR', h2⟩ := hsub id' k e' h2
        rcases hSn k h1 with ⟨i, hi, h'⟩ | h'
        · exact absurd (h.dis id' i k h2 h' ▸ hi) hR'
        · have := hSlt id' k h2; omega
    · by_cases e' : id' = nid
      · subst e'; rw [gN] at h2
        obtain ⟨hR', h1⟩ := hsub id k e h1
        rcases hSn k h2 with ⟨i, hi, h'⟩ | h'
        · exact absurd (h.dis id i k h1 h' ▸ hi) hR'
        · have := hSlt id k h1; omega
      · exact h.dis id id' k (hsub id k e h1).2 (hsub id' k e' h2).2
end
end Go.Proofs.Ytekdfddodabfcaa
/- The engine, part G: one operation, described: what it reads, what it gives, what it changes. -/
namespace Go.Proofs.Ytekdfddodabfcaa
open Go.RowKit
set_option linter.unusedVariables false
set_option linter.unusedSimpArgs false

/-- A constant. -/
def cst : Value → AV
  | .agg cs => if cs.toList.all (·.oneCell') then .ag (cs.toList.map .v) else .no
  | .tuple _ => .no
  | .bool b => .c (.v (.bool b))
  | .int k n => .c (.v (.int k n))
  | .string s => .c (.v (.string s))
  | .slice x n c => .c (.v (.slice x n c))
  | .pointer x => .c (.v (.pointer x))
  | .nilFunc => .c (.v .nilFunc)
  | .func f x y => .c (.v (.func f x y))
  | .nilIface => .c (.v .nilIface)
  | .map r => .c (.v (.map r))
  | _ => .no
def ev (sl : List AV) : Operand → AV
  | .tmp t => sl.getD t .no
  | .const v => cst v
  | .global g => .c (.v (.pointer (some ⟨g, 0, none⟩)))
  | .func f => .c (.v (.func (.func f) #[] #[]))

section
variable {P : Program} {G G' : Gh} {On On' : Nat → Prop} {w w' : World} {B : Fr} {w0 : World} {sl : List AV} {hp hp' : Hp} {a : Act}

theorem all2_v {l : List Value} (h : l.all (·.oneCell') = true) : All2 (Cr P G On w) (l.map .v) l := by
  induction l with
  | nil => exact .nil
  | cons x l ih => simp only [List.all_cons, Bool.and_eq_true] at h; exact .cons ⟨rfl, h.1⟩ (ih h.2)
theorem cst_sound (v : Value) : Vr P G On w (cst v) v := by
  cases v <;> simp only [cst] <;> first | exact ⟨rfl, rfl⟩ | trivial | skip
  rename_i cs
  split
  · exact ⟨cs, rfl, all2_v ‹_›⟩
  · trivial
theorem ev_sound (h : Rel P B w0 G On ⟨sl, hp⟩ a w) (x : Operand) : Vr P G On w (ev sl x) (a.eval x) := by
  cases x with
  | tmp t =>
    simp only [ev, Act.eval]
    by_cases ht : t < sl.length
    · obtain ⟨v, hv, hr⟩ := h.sl.get t sl[t] (List.getElem?_eq_getElem ht)
      have e1 : sl.getD t .no = sl[t] := by simp [List.getD, ht]
      have e2 : a.tmps.getD t undef = v := by
        rw [Array.getElem?_toList] at hv
        simp [Array.getD_eq_getD_getElem?, hv]
      rw [e1, e2]; exact hr
    · have e1 : sl.getD t .no = .no := by simp [List.getD, List.getElem?_eq_none (Nat.le_of_not_lt ht)]
      rw [e1]; trivial
  | const v => exact cst_sound v
  | global g => exact ⟨rfl, rfl⟩
  | func f => exact ⟨rfl, rfl⟩

/-- What an operation needs (rs: operands; T: blocks), gives (v) and changes (E); new blocks take numbers from nid on. -/
def OpSem (P : Program) (o : Oper) (rs : List (Operand × AV)) (T : List (Nat × AB)) (nid : Nat) (v : AV) (E : List (Nat × Option AB)) : Prop :=
  ∀ (sl : List AV) (hp : Hp) (On : Nat → Prop), (∀ x ∈ rs, ev sl x.1 = x.2) → (∀ x ∈ T, hget hp x.1 = some x.2) → (∀ id, nid ≤ id → id < nid + 8 → ¬ On id) →
  ∀ (B : Fr) (w0 : World) (G : Gh) (a : Act) (w : World), Rel P B w0 G On ⟨sl, hp⟩ a w →
  ∀ (K : Act → World → Prop) (Q : Exit → Act → World → Prop), (∀ G' a' w', Rel P B w0 G' (OnE On E) ⟨putA sl o.dst v, happly hp E⟩ a' w' → K a' w') → o.wp P a w K Q

theorem onE_nil : OnE On [] = On := by funext id; simp [OnE]

/-- An operation that only reckons. -/
theorem opsem_val {o : Oper} {rs : List (Operand × AV)} {T : List (Nat × AB)} {nid : Nat} {v : AV}
    (h : ∀ sl hp On B w0 G a w, (∀ x ∈ rs, ev sl x.1 = x.2) → (∀ x ∈ T, hget hp x.1 = some x.2) → Rel P B w0 G On ⟨sl, hp⟩ a w →
      ∃ y, (execOp a.eval o).run P w = .ok (.value y) w ∧ Vr P G On w v y) : OpSem P o rs T nid v [] := by
  intro sl hp On hrs hT _ B w0 G a w hr K Q hK
  obtain ⟨y, he, hv⟩ := h sl hp On B w0 G a w hrs hT hr
  unfold Oper.wp
  rw [he]
  exact hK G _ _ (by rw [onE_nil]; exact hr.put o.dst hv)

/-- An operation that makes or turns memory. -/
theorem opsem_of {o : Oper} {rs : List (Operand × AV)} {T : List (Nat × AB)} {nid : Nat} {v : AV} {E : List (Nat × Option AB)}
    (h : ∀ sl hp On B w0 G a w, (∀ x ∈ rs, ev sl x.1 = x.2) → (∀ x ∈ T, hget hp x.1 = some x.2) → (∀ id, nid ≤ id → id < nid + 8 → ¬ On id) → Rel P B w0 G On ⟨sl, hp⟩ a w →
      ∃ y w' G', (execOp a.eval o).run P w = .ok (.value y) w' ∧ Rel P B w0 G' (OnE On E) ⟨sl, happly hp E⟩ a w' ∧ Vr P G' (OnE On E) w' v y) : OpSem P o rs T nid v E := by
  intro sl hp On hrs hT hn B w0 G a w hr K Q hK
  obtain ⟨y, w', G', he, hr', hv⟩ := h sl hp On B w0 G a w hrs hT hn hr
  unfold Oper.wp
  rw [he]
  exact hK G' _ _ (hr'.put o.dst hv)
theorem opsem_skip {o : Oper} {rs : List (Operand × AV)} {T : List (Nat × AB)} {nid : Nat} {E : List (Nat × Option AB)}
    (h : ∀ sl hp On B w0 G a w, (∀ x ∈ rs, ev sl x.1 = x.2) → (∀ x ∈ T, hget hp x.1 = some x.2) → (∀ id, nid ≤ id → id < nid + 8 → ¬ On id) → Rel P B w0 G On ⟨sl, hp⟩ a w →
      ∃ w' G', (execOp a.eval o).run P w = .ok .skip w' ∧ Rel P B w0 G' (OnE On E) ⟨sl, happly hp E⟩ a w') : OpSem P o rs T nid .no E := by
  intro sl hp On hrs hT hn B w0 G a w hr K Q hK
  obtain ⟨w', G', he, hr'⟩ := h sl hp On B w0 G a w hrs hT hn hr
  unfold Oper.wp
  rw [he]
  exact hK G' _ _ (hr'.put o.dst (v := undef) trivial)

/-! The scalars' own reckoning. -/
def bin : BinOp → Value → Value → Option Value
  | .add, .int k a, .int k' b => if k = k' then some (.int k (k.wrap (a + b))) else none
  | .sub, .int k a, .int k' b => if k = k' then some (.int k (k.wrap (a - b))) else none
  | .mul, .int k a, .int k' b => if k = k' then some (.int k (k.wrap (a * b))) else none
  | .quo, .int k a, .int k' b => if k = k' then (if b = 0 then none else some (.int k (k.wrap (a.tdiv b)))) else none
  | .rem, .int k a, .int k' b => if k = k' then (if b = 0 then none else some (.int k (a.tmod b))) else none
  | .eql, .int k a, .int k' b => if k = k' then some (.bool (a == b)) else none
  | .neq, .int k a, .int k' b => if k = k' then some (.bool (a != b)) else none
  | .lss, .int k a, .int k' b => if k = k' then some (.bool (decide (a < b))) else none
  | .leq, .int k a, .int k' b => if k = k' then some (.bool (decide (a ≤ b))) else none
  | .gtr, .int k a, .int k' b => if k = k' then some (.bool (decide (a > b))) else none
  | .geq, .int k a, .int k' b => if k = k' then some (.bool (decide (a ≥ b))) else none
  | .add, .string a, .string b => if ((a.size + b.size : Nat) : Int) ≤ 9223372036854775807 then some (.string (a ++ b)) else none
  | .eql, .string a, .string b => some (.bool (a.toList == b.toList))
  | .neq, .string a, .string b => some (.bool (!(a.toList == b.toList)))
  | .lss, .string a, .string b => some (.bool (Op.bytesLess a.toList b.toList))
  | .leq, .string a, .string b => some (.bool (Op.bytesLess a.toList b.toList || a.toList == b.toList))
  | .gtr, .string a, .string b => some (.bool (!(Op.bytesLess a.toList b.toList || a.toList == b.toList)))
  | .geq, .string a, .string b => some (.bool (!(Op.bytesLess a.toList b.toList)))
  | _, _, _ => none

theorem bin_sound {op : BinOp} {t : TypeId} {x y : Operand} {u v r : Value} (h : bin op u v = some r) (w : World) :
    (do eqGuard op t x y u v; binOp op t u v : Sem Value).run P w = .ok r w ∧ r.oneCell' = true := by
  cases u <;> cases v <;> cases op <;> simp only [bin] at h <;> first | cases h | skip
  all_goals try (split at h <;> first | cases h | skip)
  all_goals try subst_vars
  all_goals try (split at h <;> first | cases h | skip)
  all_goals try (injection h with h; subst h)
  all_goals refine ⟨?_, rfl⟩
  all_goals first
    | (simp [go_sem, *]; done)
    | (simp [binOp, Op.stringOp, go_sem, *]; done)
    | (simp [binOp, Op.stringOp, go_sem]; omega)

def un : UnOp → Value → Option Value
  | .not, .bool b => some (.bool (!b))
  | .neg, .int k n => some (.int k (k.wrap (0 - n)))
  | _, _ => none
theorem un_sound {op : UnOp} {u r : Value} (h : un op u = some r) (w : World) : (Op.unary op u).run P w = .ok r w ∧ r.oneCell' = true := by
  cases u <;> cases op <;> simp only [un, reduceCtorEq, Option.some.injEq] at h
  all_goals (subst h; exact ⟨by simp [Op.unary, Op.intArith], rfl⟩)
end
end Go.Proofs.Ytekdfddodabfcaa
/- The engine, part H: the operations that only reckon or read. -/
namespace Go.Proofs.Ytekdfddodabfcaa
open Go.RowKit
set_option linter.unusedVariables false
set_option linter.unusedSimpArgs false

section
variable {P : Program} {o : Oper} {nid : Nat}

theorem rs1 {sl : List AV} {x : Operand} {v : AV} {l : List (Operand × AV)} (h : ∀ z ∈ (x, v) :: l, ev sl z.1 = z.2) : ev sl x = v := h (x, v) (by simp)
theorem rs2 {sl : List AV} {x : Operand} {v : AV} {y : Operand × AV} {l : List (Operand × AV)} (h : ∀ z ∈ y :: (x, v) :: l, ev sl z.1 = z.2) : ev sl x = v := h (x, v) (by simp)
theorem vr_v {G : Gh} {On : Nat → Prop} {w : World} {x y : Value} (h : Vr P G On w (.c (.v x)) y) : y = x := h.1

theorem op_move {x : Operand} {v : AV} (ho : o.op = .move x ∨ o.op = .assign x) : OpSem P o [(x, v)] [] nid v [] := by
  refine opsem_val fun sl hp On B w0 G a w hrs _ hr => ⟨a.eval x, ?_, ?_⟩
  · rcases ho with ho | ho <;> simp [execOp, ho]
  · have := rs1 hrs; rw [← this]; exact ev_sound hr x
theorem op_pick {c x y : Operand} {t : Bool} {v : AV} (ho : o.op = .pick c x y) : OpSem P o [(c, .c (.v (.bool t))), (if t then x else y, v)] [] nid v [] := by
  refine opsem_val fun sl hp On B w0 G a w hrs _ hr => ⟨a.eval (if t then x else y), ?_, ?_⟩
  · have h1 := rs1 hrs
    have := ev_sound hr c; rw [h1] at this
    cases t <;> simp [execOp, ho, vr_v this, asBool]
  · have := rs2 hrs; rw [← this]; exact ev_sound hr _
theorem op_bin {op : BinOp} {t t' : TypeId} {x y : Operand} {u v r : Value} (ho : o.op = .binOp op t x y t') (hb : bin op u v = some r) :
    OpSem P o [(x, .c (.v u)), (y, .c (.v v))] [] nid (.c (.v r)) [] := by
  refine opsem_val fun sl hp On B w0 G a w hrs _ hr => ⟨r, ?_, rfl, ?_⟩
  · have h1 := rs1 hrs; have h2 := rs2 hrs
    have e1 := ev_sound hr x; rw [h1] at e1
    have e2 := ev_sound hr y; rw [h2] at e2
    have := (bin_sound (P := P) (t := t) (x := x) (y := y) hb w).1
    simp only [execOp, ho, vr_v e1, vr_v e2]
    simp only [Sem.run_bind, Result.andThen] at this ⊢
    rw [this]; rfl
  · exact (bin_sound (P := P) (t := t) (x := x) (y := y) hb w).2
theorem op_un {op : UnOp} {t : TypeId} {x : Operand} {u r : Value} (ho : o.op = .unOp op t x) (hb : un op u = some r) : OpSem P o [(x, .c (.v u))] [] nid (.c (.v r)) [] := by
  refine opsem_val fun sl hp On B w0 G a w hrs _ hr => ⟨r, ?_, rfl, ?_⟩
  · have h1 := rs1 hrs
    have e1 := ev_sound hr x; rw [h1] at e1
    simp [execOp, ho, vr_v e1, (un_sound (P := P) hb w).1]
  · exact (un_sound (P := P) hb w).2
theorem op_conv_int {s d : TypeId} {x : Operand} {k k' : IntKind} {n : Int} (ho : o.op = .convert s d x) (hs : (P.underlying s).isSome = true) (hd : P.underlying d = some (.int k')) :
    OpSem P o [(x, .c (.v (.int k n)))] [] nid (.c (.v (.int k' (k'.wrap n)))) [] := by
  refine opsem_val fun sl hp On B w0 G a w hrs _ hr => ⟨.int k' (k'.wrap n), ?_, rfl, rfl⟩
  have h1 := rs1 hrs
  have e1 := ev_sound hr x; rw [h1] at e1
  obtain ⟨u, hu⟩ := Option.isSome_iff_exists.1 hs
  simp [execOp, ho, vr_v e1, convert, run_underlying hu, run_underlying hd, Conv.intToInt]
theorem op_conv_str {s d : TypeId} {x : Operand} {b : ByteArray} (ho : o.op = .convert s d x) (hs : P.underlying s = some .string) (hd : P.underlying d = some .string) :
    OpSem P o [(x, .c (.v (.string b)))] [] nid (.c (.v (.string b))) [] := by
  refine opsem_val fun sl hp On B w0 G a w hrs _ hr => ⟨.string b, ?_, rfl, rfl⟩
  have h1 := rs1 hrs
  have e1 := ev_sound hr x; rw [h1] at e1
  simp [execOp, ho, vr_v e1, convert, run_underlying hs, run_underlying hd]

def tuAt (x : CV ⊕ List CV) : AV := match x with | .inl c => .c c | .inr cs => .ag cs
theorem op_extract {x : Operand} {i : Nat} {xs : List (CV ⊕ List CV)} {y : CV ⊕ List CV} (ho : o.op = .extract x i) (hy : xs[i]? = some y) : OpSem P o [(x, .tu xs)] [] nid (tuAt y) [] := by
  refine opsem_val fun sl hp On B w0 G a w hrs _ hr => ?_
  have h1 := rs1 hrs
  have e1 := ev_sound hr x; rw [h1] at e1
  obtain ⟨vs, hv, hall⟩ := e1
  obtain ⟨v, hvi, hp⟩ := hall.get i y hy
  refine ⟨v, ?_, ?_⟩
  · rw [Array.getElem?_toList] at hvi
    simp [execOp, ho, hv, Instr.extract, hvi]
  · cases y <;> exact hp

/-- How long a slice is. -/
def lenC : CV → Option Nat
  | .v (.slice none 0 0) => some 0
  | .ro _ ls => some ls.length
  | .sl _ n => some n
  | .sb _ _ n => some n
  | _ => none
theorem cr_len {G : Gh} {On : Nat → Prop} {w : World} {c : CV} {v : Value} {n : Nat} (h : Cr P G On w c v) (hl : lenC c = some n) : ∃ ad cap, v = .slice ad n cap := by
  cases c with
  | v x =>
    obtain ⟨rfl, _⟩ := h
    cases v <;> simp [lenC] at hl
    rename_i ad m c
    split at hl <;> simp_all
  | ro e ls =>
    simp only [lenC, Option.some.injEq] at hl; subst hl
    cases h with
    | nil => exact ⟨_, _, rfl⟩
    | l => exact ⟨_, _, rfl⟩
  | sl id m => simp only [lenC, Option.some.injEq] at hl; subst hl; obtain ⟨_, rfl⟩ := h; exact ⟨_, _, rfl⟩
  | sb id lo m => simp only [lenC, Option.some.injEq] at hl; subst hl; obtain ⟨_, ad, cap, rfl, _⟩ := h; exact ⟨_, _, rfl⟩
  | _ => simp [lenC] at hl
theorem op_len {x : Operand} {t e : TypeId} {c : CV} {n : Nat} (ho : o.op = .call ⟨.builtin .len, #[x], #[t]⟩) (ht : P.underlying t = some (.slice e)) (hl : lenC c = some n) :
    OpSem P o [(x, .c c)] [] nid (.c (.v (.int .i64 n))) [] := by
  refine opsem_val fun sl hp On B w0 G a w hrs _ hr => ⟨.int .i64 n, ?_, rfl, rfl⟩
  have h1 := rs1 hrs
  have e1 := ev_sound hr x; rw [h1] at e1
  obtain ⟨ad, cap, hv⟩ := cr_len e1 hl
  simp [execOp, ho, resolve, invoke, builtin, Builtin.len_, run_underlying ht, hv, goInt]
theorem op_len_str {x : Operand} {t : TypeId} {s : ByteArray} (ho : o.op = .call ⟨.builtin .len, #[x], #[t]⟩) (ht : P.underlying t = some .string) :
    OpSem P o [(x, .c (.v (.string s)))] [] nid (.c (.v (.int .i64 s.size))) [] := by
  refine opsem_val fun sl hp On B w0 G a w hrs _ hr => ⟨.int .i64 s.size, ?_, rfl, rfl⟩
  have h1 := rs1 hrs
  have e1 := ev_sound hr x; rw [h1] at e1
  simp [execOp, ho, resolve, invoke, builtin, Builtin.len_, run_underlying ht, vr_v e1, goInt]
theorem op_index_str {x y : Operand} {t : TypeId} {s : ByteArray} {k : IntKind} {i : Int} (ho : o.op = .index t x y) (ht : P.underlying t = some .string) (h0 : 0 ≤ i) (h1 : i.toNat < s.size) :
    OpSem P o [(x, .c (.v (.string s))), (y, .c (.v (.int k i)))] [] nid (.c (.v (.int .u8 (s[i.toNat]'h1).toNat))) [] := by
  refine opsem_val fun sl hp On B w0 G a w hrs _ hr => ⟨.int .u8 (s[i.toNat]'h1).toNat, ?_, rfl, rfl⟩
  have a1 := rs1 hrs; have a2 := rs2 hrs
  have e1 := ev_sound hr x; rw [a1] at e1
  have e2 := ev_sound hr y; rw [a2] at e2
  have hg : s[i.toNat]? = some (s[i.toNat]'h1) := by simp [getElem?_pos, h1]
  simp [execOp, ho, Instr.index, run_underlying ht, vr_v e1, vr_v e2, asIntOf, h0, hg]

/-- An address, some cells further on. -/
def addC (n : Nat) : CV → Option CV
  | .pt id off => some (.pt id (off + n))
  | .rp id i off => some (.rp id i (off + n))
  | .tp cs off => some (.tp cs (off + n))
  | _ => none
theorem add_addr (b x y : Nat) : (⟨b, x, none⟩ : Addr).add y = ⟨b, x + y, none⟩ := Addr.add_lit b x y
theorem cr_add {G : Gh} {On : Nat → Prop} {w : World} {c c' : CV} {v : Value} {n : Nat} (h : Cr P G On w c v) (hc : addC n c = some c') :
    ∃ ad, v = .pointer (some ad) ∧ Cr P G On w c' (.pointer (some (ad.add n))) := by
  cases c <;> simp only [addC, reduceCtorEq, Option.some.injEq] at hc <;> subst hc
  · obtain ⟨h0, rfl⟩ := h; exact ⟨_, rfl, h0, by rw [add_addr]⟩
  · obtain ⟨h0, rfl⟩ := h; exact ⟨_, rfl, h0, by rw [add_addr, Nat.add_assoc]⟩
  · obtain ⟨b, q, rfl, h2⟩ := h; exact ⟨_, rfl, b, q, by rw [add_addr, Nat.add_assoc], h2⟩
theorem op_fieldAddr {x : Operand} {s : TypeId} {i : Nat} {fs : Array Field} {f : Field} {c c' : CV} (ho : o.op = .fieldAddr s x i) (hs : P.underlying s = some (.struct fs)) (hf : fs[i]? = some f)
    (hz : szT P f.type ≠ 0) (hc : addC f.offset c = some c') : OpSem P o [(x, .c c)] [] nid (.c c') [] := by
  refine opsem_val fun sl hp On B w0 G a w hrs _ hr => ?_
  have h1 := rs1 hrs
  have e1 := ev_sound hr x; rw [h1] at e1
  obtain ⟨ad, hv, hc'⟩ := cr_add e1 hc
  refine ⟨_, ?_, hc'⟩
  have hsz : ∃ ti, P.info? f.type = some ti ∧ ti.size ≠ 0 := by
    unfold szT at hz
    cases h : P.info? f.type with
    | none => simp [h] at hz
    | some ti => exact ⟨ti, rfl, by simpa [h] using hz⟩
  obtain ⟨ti, hti, hz'⟩ := hsz
  simp [execOp, ho, Instr.fieldAt, run_underlying hs, hf, hv, Instr.sureAddr, fieldPlace, sizeOf, typeInfo, hti, hz']
end
end Go.Proofs.Ytekdfddodabfcaa
/- The engine, part I: the operations that read memory, make variables, and store. -/
namespace Go.Proofs.Ytekdfddodabfcaa
open Go.RowKit
set_option linter.unusedVariables false
set_option linter.unusedSimpArgs false

/-- Data, as a cell of a slot holds it. -/
def dvc : DV → CV
  | .s v => .v v
  | .l e ls => .ro e ls
  | .no => .no
/-- Data that lies in row id, element i, cell j. -/
def rdc (id i : Nat) : DV × Nat → CV
  | (.s v, _) => .v v
  | (.l _ _, j) => .inn id i j
  | (.no, _) => .no
def part2 {α : Type} (cs : List α) (off n : Nat) : Option (List α) := if off + n ≤ cs.length then some ((cs.drop off).take n) else none
/-- The n cells that lie at an address. -/
def cellsAt (hp : Hp) (c : CV) (n : Nat) : Option (List CV) :=
  match c with
  | .pt id off => match hget hp id with
    | some (.var _ cs) => part2 cs off n
    | _ => none
  | .tp cs off => (part2 cs off n).map (·.map dvc)
  | .rp id i off => match hget hp id with
    | some (.row _ _ ls) => match ls[i]? with
      | some cs => (part2 cs.zipIdx off n).map (·.map (rdc id i))
      | none => none
    | _ => none
  | _ => none
/-- The block that is looked at. -/
def looks (hp : Hp) : CV → List (Nat × AB)
  | .pt id _ => match hget hp id with
    | some blk => [(id, blk)]
    | none => []
  | .rp id _ _ => match hget hp id with
    | some blk => [(id, blk)]
    | none => []
  | .inn id _ _ => match hget hp id with
    | some blk => [(id, blk)]
    | none => []
  | .sl id _ => match hget hp id with
    | some blk => [(id, blk)]
    | none => []
  | .sb id _ _ => match hget hp id with
    | some blk => [(id, blk)]
    | none => []
  | .mp id => match hget hp id with
    | some blk => [(id, blk)]
    | none => []
  | _ => []
def ids (l : List (Nat × AB)) : List Nat := l.map Prod.fst

section
variable {P : Program} {G G' : Gh} {On On' : Nat → Prop} {w w' : World} {B : Fr} {w0 : World} {sl : List AV} {hp hp' : Hp} {a : Act} {o : Oper} {nid : Nat}

theorem part2_get {α : Type} {cs r : List α} {off n : Nat} (h : part2 cs off n = some r) : r.length = n ∧ ∀ (j : Nat) x, r[j]? = some x → cs[off + j]? = some x := by
  unfold part2 at h
  split at h
  · injection h with h; subst h
    refine ⟨by simp; omega, fun j x hx => ?_⟩
    rw [List.getElem?_take] at hx
    split at hx
    · simpa using hx
    · cases hx
  · cases h
theorem all2_of_fun {b off : Nat} {cs : List CV} {n : Nat} (hl : cs.length = n) (h : ∀ (j : Nat) c, cs[j]? = some c → ∃ v, Cr P G On w c v ∧ w.cell? ⟨b, off + j, none⟩ = some v) :
    ∃ vs : List Value, vs.length = n ∧ All2 (Cr P G On w) cs vs ∧ ∀ (j : Nat) v, vs[j]? = some v → w.cell? ((⟨b, off, none⟩ : Addr).add j) = some v := by
  induction cs generalizing n off with
  | nil => exact ⟨[], by simpa using hl, .nil, by simp⟩
  | cons c cs ih =>
    obtain ⟨v, hv, hc⟩ := h 0 c rfl
    obtain ⟨vs, h1, h2, h3⟩ := ih (off := off + 1) rfl (fun j c hj => by
      have := h (j + 1) c (by simpa using hj)
      rwa [show off + (j + 1) = off + 1 + j by omega] at this)
    refine ⟨v :: vs, by simp [h1]; simpa using hl, .cons hv h2, fun j u hu => ?_⟩
    rw [add_addr]
    cases j with
    | zero => simp at hu; subst hu; simpa using hc
    | succ j =>
      have := h3 j u (by simpa using hu)
      rw [add_addr] at this
      rwa [show off + (j + 1) = off + 1 + j by omega]

theorem dvc_sound {d : DV} {v : Value} (h : K P w (Uo G w) d v) : Cr P G On w (dvc d) v := by
  cases d with
  | s x => cases h with | s h => exact ⟨rfl, one_of_sca h⟩
  | l e ls => exact h
  | no => cases h with | no h => exact h
theorem row_cells {pn : Bool} {e : Nat} {ls : List (List DV)} {id i : Nat} {cs : List DV} (hb : Bk P G On w (G id) (.row pn e ls)) (hi : ls[i]? = some cs) :
    (G id).nl = false ∧ ∃ arr, w.heap[(G id).b]? = some (.cells arr e (0, 0)) ∧ cs.length = szT P e ∧ (G id).sz = szT P e ∧ (G id).S (G id).b ∧
      ∀ (j : Nat) d, cs[j]? = some d → ∃ v S, arr[i * szT P e + j]? = some v ∧ M P w S d v ∧ ∀ k, S k → (G id).S k ∧ k ≠ (G id).b := by
  obtain ⟨hsz, hm, hpin⟩ := hb
  obtain ⟨_, hc⟩ := hm.inv
  rcases hc with ⟨_, rfl, _⟩ | ⟨hnl, arr, vals, F, h1, h2, h3, h4, h5, h6, h7, h8, h9, h10⟩
  · simp at hi
  · exact ⟨hnl, arr, h4, h8 i cs hi, hsz, h1, fun j d hd => ⟨_, _, h9 i cs j d hi hd, h10 i cs j d hi hd, fun k hk => h2 i j k hk⟩⟩

/-- What lies at an address, is there. -/
theorem cellsAt_sound (h : Rel P B w0 G On ⟨sl, hp⟩ a w) {hp0 : Hp} {c : CV} {y : Value} {n : Nat} {cs : List CV} (hv : Cr P G On w c y) (hc : cellsAt hp0 c n = some cs) (hT : ∀ x ∈ looks hp0 c, hget hp x.1 = some x.2) :
    ∃ ad, y = .pointer (some ad) ∧ ∃ vs : List Value, vs.length = n ∧ All2 (Cr P G On w) cs vs ∧ ∀ (j : Nat) v, vs[j]? = some v → w.cell? (ad.add j) = some v := by
  cases c with
  | pt id off =>
    obtain ⟨_, rfl⟩ := hv
    simp only [cellsAt] at hc
    simp only [looks] at hT
    cases hg : hget hp0 id with
    | none => rw [hg] at hc; cases hc
    | some blk =>
      rw [hg] at hc hT
      cases blk with
      | row pn e ls => cases hc
      | ob o => cases hc
      | var t cs0 =>
        simp only at hc
        have hg' := hT (id, .var t cs0) (by simp)
        obtain ⟨_, hS, _, arr, hh, hall⟩ := h.hp id _ hg'
        obtain ⟨hl, hget⟩ := part2_get hc
        refine ⟨_, rfl, all2_of_fun hl fun j c hj => ?_⟩
        obtain ⟨v, hv, hr⟩ := hall.get _ c (hget j c hj)
        refine ⟨v, hr, ?_⟩
        rw [cell_of_row w _ _ arr t (0, 0) hh]
        rwa [Array.getElem?_toList] at hv
  | tp cs0 off =>
    obtain ⟨b, q, rfl, _, arr, t, fz, hh, hall⟩ := hv
    simp only [cellsAt, Option.map_eq_some_iff] at hc
    obtain ⟨r, hr, rfl⟩ := hc
    obtain ⟨hl, hget⟩ := part2_get hr
    refine ⟨_, rfl, all2_of_fun (by simpa using hl) fun j c hj => ?_⟩
    simp only [List.getElem?_map, Option.map_eq_some_iff] at hj
    obtain ⟨d, hd, rfl⟩ := hj
    obtain ⟨v, hv, hk⟩ := hall _ d (hget j d hd)
    refine ⟨v, dvc_sound hk, ?_⟩
    rw [cell_of_row w _ _ arr t fz hh, Nat.add_assoc]; exact hv
  | rp id i off =>
    obtain ⟨ho, rfl⟩ := hv
    simp only [cellsAt] at hc
    simp only [looks] at hT
    cases hg : hget hp0 id with
    | none => rw [hg] at hc; cases hc
    | some blk =>
      rw [hg] at hc hT
      cases blk with
      | var t cs0 => cases hc
      | ob o => cases hc
      | row pn e ls =>
        simp only at hc
        have hg' := hT (id, .row pn e ls) (by simp)
        cases hi : ls[i]? with
        | none => rw [hi] at hc; cases hc
        | some cs0 =>
          rw [hi] at hc
          simp only [Option.map_eq_some_iff] at hc
          obtain ⟨r, hr, rfl⟩ := hc
          obtain ⟨hl, hget⟩ := part2_get hr
          have hbk := (h.hp id _ hg').2
          obtain ⟨_, arr, hh, hlen, hsz, hSb, hcell⟩ := row_cells hbk hi
          refine ⟨_, rfl, all2_of_fun (by simpa using hl) fun j c hj => ?_⟩
          simp only [List.getElem?_map, Option.map_eq_some_iff] at hj
          obtain ⟨⟨d, q⟩, hd, rfl⟩ := hj
          have hz := hget j _ hd
          rw [List.getElem?_zipIdx] at hz
          simp only [Option.map_eq_some_iff, Prod.mk.injEq] at hz
          obtain ⟨d', hd', rfl, rfl⟩ := hz
          obtain ⟨v, S, hv, hm, hS⟩ := hcell _ d' hd'
          have hcl : w.cell? ⟨(G id).b, i * (G id).sz + off + j, none⟩ = some v := by
            rw [cell_of_row w _ _ arr e (0, 0) hh, hsz, Nat.add_assoc]; exact hv
          refine ⟨v, ?_, hcl⟩
          cases d' with
          | s x => cases hm with | s h => exact ⟨rfl, one_of_sca h⟩
          | l e' ls' => exact ⟨ho, hm.one, fun _ => by rw [← hcl]; congr 2; omega⟩
          | no => cases hm with | no h => exact h
  | _ => simp [cellsAt] at hc

def aggT (P : Program) (t : TypeId) : Option Bool :=
  match P.underlying t with
  | some (.struct _) | some (.array _ _) => some true
  | some _ => some false
  | none => none
theorem run_isAgg {t : TypeId} {b : Bool} (h : aggT P t = some b) (w : World) : (isAgg t).run P w = .ok b w := by
  unfold aggT at h
  split at h <;> first | (injection h with h; subst h) | cases h
  · rename_i d hd; simp [isAgg, run_underlying hd]
  · rename_i d hd; simp [isAgg, run_underlying hd]
  · rename_i d h1 h2 hd
    simp only [isAgg, Sem.run_bind, run_underlying hd, Result.andThen_ok]
    cases d <;> first | rfl | exact (h1 _ rfl).elim | exact (h2 _ _ rfl).elim
theorem run_sizeOf {t : TypeId} {n : Nat} (h : szT P t = n) (hn : n ≠ 0) (w : World) : (sizeOf t).run P w = .ok n w := by
  unfold szT at h
  cases hi : P.info? t with
  | none => simp [hi] at h; exact absurd h.symm hn
  | some i => simp [hi] at h; simp [sizeOf, typeInfo, hi, h]

theorem op_load1 {x : Operand} {t : TypeId} {c d : CV} (ho : o.op = .load t x) (ht : aggT P t = some false) (hc : cellsAt hp c 1 = some [d]) :
    OpSem P o [(x, .c c)] (looks hp c) nid (.c d) [] := by
  refine opsem_val fun sl hp' On B w0 G a w hrs hT hr => ?_
  have e1 := ev_sound hr x; rw [rs1 hrs] at e1
  obtain ⟨ad, hv, vs, hl, hall, hcell⟩ := cellsAt_sound hr e1 hc hT
  obtain ⟨v, hv0, hd⟩ := hall.get 0 d rfl
  refine ⟨v, ?_, hd⟩
  have := hcell 0 v hv0
  rw [Addr.add_zero'] at this
  simp [execOp, ho, hv, Instr.loadAt, Instr.sureAddr, loadVar, run_isAgg ht, this]
theorem op_loadN {x : Operand} {t : TypeId} {c : CV} {ds : List CV} {n : Nat} (ho : o.op = .load t x) (ht : aggT P t = some true) (hn : szT P t = n) (h0 : n ≠ 0) (hc : cellsAt hp c n = some ds) :
    OpSem P o [(x, .c c)] (looks hp c) nid (.ag ds) [] := by
  refine opsem_val fun sl hp' On B w0 G a w hrs hT hr => ?_
  have e1 := ev_sound hr x; rw [rs1 hrs] at e1
  obtain ⟨ad, hv, vs, hl, hall, hcell⟩ := cellsAt_sound hr e1 hc hT
  refine ⟨.agg vs.toArray, ?_, vs.toArray, rfl, by simpa using hall⟩
  have := run_loadCells_list (P := P) w ad vs hcell
  rw [hl] at this
  simp [execOp, ho, hv, Instr.loadAt, Instr.sureAddr, loadVar, run_isAgg ht, run_sizeOf hn h0, this]

/-- A type's zero value, as cells. -/
def zcT (P : Program) (t : TypeId) : Option (List Value) :=
  match P.info? t with
  | some i => match i.zero with
    | some z => if z.cells.toList.all (·.oneCell') then some z.cells.toList else none
    | none => none
  | none => none
theorem zcT_run {t : TypeId} {zs : List Value} (h : zcT P t = some zs) : ∃ z : Value, (∀ w, (zeroValue t).run P w = .ok z w) ∧ z.cells.toList = zs ∧ zs.all (·.oneCell') = true := by
  unfold zcT at h
  split at h
  · rename_i i hi
    split at h
    · rename_i z hz
      split at h
      · rename_i hall
        injection h with h; subst h
        exact ⟨z, fun w => by simp [zeroValue, typeInfo, hi, hz], rfl, hall⟩
      · cases h
    · cases h
  · cases h

theorem onE1 {x : Option AB} : OnE On [(nid, x)] nid := .inr (by simp)

theorem op_alloc {t : TypeId} {zs : List Value} (ho : o.op = .alloc t) (hz : zcT P t = some zs) : OpSem P o [] [] nid (.c (.pt nid 0)) [(nid, some (.var t (zs.map .v)))] := by
  refine opsem_of fun sl hp On B w0 G a w hrs hT hn hr => ?_
  obtain ⟨z, hrun, hcs, hall⟩ := zcT_run hz
  obtain ⟨G', hr', hb⟩ := hr.newVar (hn nid (Nat.le_refl _) (by omega)) t (zs.map .v) z.cells (by rw [hcs]; exact all2_v hall)
  refine ⟨.pointer (some ⟨w.heap.size, 0, none⟩), _, G', ?_, hr', onE1, by rw [hb]⟩
  simp [execOp, ho, Instr.alloc, hrun, newVar, newRow]
theorem op_box {x : Operand} {t : TypeId} {c : CV} (ho : o.op = .box t x) : OpSem P o [(x, .c c)] [] nid (.c (.pt nid 0)) [(nid, some (.var t [c]))] := by
  refine opsem_of fun sl hp On B w0 G a w hrs hT hn hr => ?_
  have e1 := ev_sound hr x; rw [rs1 hrs] at e1
  have hcells : (a.eval x).cells = #[a.eval x] := by
    have := Cr.one e1
    cases hv : a.eval x <;> simp_all [Value.cells, Value.oneCell']
  obtain ⟨G', hr', hb⟩ := hr.newVar (hn nid (Nat.le_refl _) (by omega)) t [c] #[a.eval x] (.cons e1 .nil)
  refine ⟨.pointer (some ⟨w.heap.size, 0, none⟩), _, G', ?_, hr', onE1, by rw [hb]⟩
  simp [execOp, ho, Instr.box, newVar, newRow, hcells]
theorem op_boxN {x : Operand} {t : TypeId} {cs : List CV} (ho : o.op = .box t x) : OpSem P o [(x, .ag cs)] [] nid (.c (.pt nid 0)) [(nid, some (.var t cs))] := by
  refine opsem_of fun sl hp On B w0 G a w hrs hT hn hr => ?_
  have e1 := ev_sound hr x; rw [rs1 hrs] at e1
  obtain ⟨vs, hv, hall⟩ := e1
  obtain ⟨G', hr', hb⟩ := hr.newVar (hn nid (Nat.le_refl _) (by omega)) t cs vs hall
  refine ⟨.pointer (some ⟨w.heap.size, 0, none⟩), _, G', ?_, hr', onE1, by rw [hb]⟩
  simp [execOp, ho, Instr.box, newVar, newRow, hv, Value.cells]
end
end Go.Proofs.Ytekdfddodabfcaa
