/- The engine, part V: whatever order is drawn, the same state is come to. -/
import Derived.Test.YtekdfddodabfcaaRc
import Derived.Scope
import Derived.Deep.LoopGhost
namespace Go.Proofs.Ytekdfddodabfcaa
open Go.RowKit
set_option linter.unusedVariables false
set_option linter.unusedSimpArgs false

def edgesOf (o : Oper) : List Nat := (o.after.toList.filter (Region.binds .any)).map (·.on)
/-- What must be done ahead of each operation, as bits. -/
def cls : List Oper → List Nat → List Nat
  | [], acc => acc
  | o :: r, acc => cls r (acc ++ [(edgesOf o).foldl (fun s e => s ||| (2 ^ e ||| acc.getD e 0)) 0])
def tmpOf : Operand → Option Nat
  | .tmp t => some t
  | _ => none
def readsOf (ops : Array Oper) (o : Oper) : List Nat :=
  o.op.operands.toList.filterMap tmpOf ++ (match o.guard with
    | some (j, _) => ((ops[j]?).bind (·.dst)).toList
    | none => [])
def disj (x y : List Nat) : Bool := x.all fun a => !y.contains a
/-- Operations that are in no order do not disturb one another. -/
def pairOk (ops : Array Oper) (c : List Nat) (acc : List (List Nat × List Nat)) (i k : Nat) : Bool :=
  i == k || (c.getD i 0).testBit k || (c.getD k 0).testBit i ||
  (match ops[i]?, ops[k]?, acc[i]?, acc[k]? with
   | some o, some p, some (ti, ei), some (_, ek) => (match p.dst with
      | some d => !(readsOf ops o).contains d && o.dst != some d
      | none => true) && disj ek ti && disj ek ei
   | _, _, _, _ => false)
def okDraw (ops : Array Oper) (base : Nat) (acc : List (List Nat × List Nat)) : Bool :=
  let c := cls ops.toList []
  acc.length == ops.size &&
  ((List.range ops.size).all fun i => match ops[i]? with
    | some o => (edgesOf o).all fun e => decide (e < i)
    | none => false) &&
  ((List.range ops.size).all fun i => (List.range ops.size).all fun k => pairOk ops c acc i k) &&
  ((List.range ops.size).all fun i => match acc[i]? with
    | some (_, e) => e.all fun id => decide (id < base ∨ (base + 8 * i ≤ id ∧ id < base + 8 * i + 8)) || (c.getD i 0).testBit ((id - base) / 8)
    | none => false)

theorem bit_two (e i : Nat) : (2 ^ e).testBit i = decide (e = i) := by
  rw [Nat.testBit_two_pow]
theorem foldl_bit {acc : List Nat} {i : Nat} : ∀ (es : List Nat) (s : Nat), (es.foldl (fun s e => s ||| (2 ^ e ||| acc.getD e 0)) s).testBit i = true → s.testBit i = true ∨ ∃ e ∈ es, e = i ∨ (acc.getD e 0).testBit i = true := by
  intro es
  induction es with
  | nil => intro s h; exact .inl h
  | cons e es ih =>
    intro s h
    rw [List.foldl_cons] at h
    rcases ih _ h with h | ⟨e', he', h⟩
    · simp only [Nat.testBit_or, Bool.or_eq_true, bit_two, decide_eq_true_eq] at h
      rcases h with h | h | h
      · exact .inl h
      · exact .inr ⟨e, by simp, .inl h⟩
      · exact .inr ⟨e, by simp, .inr h⟩
    · exact .inr ⟨e', by simp [he'], h⟩
/-- What is ahead by the bits, is in every set that is closed under the edges; and has a lesser number. -/
theorem cls_sound {D : Nat → Bool} {l0 : List Oper} (hcl : ∀ (i : Nat) o e, l0[i]? = some o → e ∈ edgesOf o → D i = true → D e = true) (hlt : ∀ (i : Nat) o e, l0[i]? = some o → e ∈ edgesOf o → e < i) :
    ∀ (l : List Oper) (acc : List Nat), (∀ (k : Nat) o, l[k]? = some o → l0[acc.length + k]? = some o) → (∀ (j i : Nat), (acc.getD j 0).testBit i = true → (D j = true → D i = true) ∧ i < j) →
    ∀ (j i : Nat), ((cls l acc).getD j 0).testBit i = true → (D j = true → D i = true) ∧ i < j := by
  intro l
  induction l with
  | nil => intro acc _ h; exact h
  | cons o l ih =>
    intro acc hl h
    simp only [cls]
    refine ih _ (fun k p hk => ?_) (fun j i hj => ?_)
    · have := hl (k + 1) p (by simpa using hk)
      simp only [List.length_append, List.length_cons, List.length_nil]
      rwa [show acc.length + (0 + 1) + k = acc.length + (k + 1) by omega]
    · by_cases h1 : j < acc.length
      · have : (acc ++ [(edgesOf o).foldl (fun s e => s ||| (2 ^ e ||| acc.getD e 0)) 0]).getD j 0 = acc.getD j 0 := by
          simp [List.getD, List.getElem?_append_left h1]
        rw [this] at hj; exact h j i hj
      · by_cases h2 : j = acc.length
        · subst h2
          have : (acc ++ [(edgesOf o).foldl (fun s e => s ||| (2 ^ e ||| acc.getD e 0)) 0]).getD acc.length 0 = (edgesOf o).foldl (fun s e => s ||| (2 ^ e ||| acc.getD e 0)) 0 := by
            simp [List.getD]
          rw [this] at hj
          have ho := hl 0 o rfl
          simp only [Nat.add_zero] at ho
          rcases foldl_bit _ _ hj with hj | ⟨e, he, hj⟩
          · simp at hj
          · have h3 := hcl _ o e ho he
            have h4 := hlt _ o e ho he
            rcases hj with rfl | hj
            · exact ⟨h3, h4⟩
            · have h5 := h e i hj
              exact ⟨fun hD => h5.1 (h3 hD), by omega⟩
        · have : (acc ++ [(edgesOf o).foldl (fun s e => s ||| (2 ^ e ||| acc.getD e 0)) 0]).getD j 0 = 0 := by
            have : (acc ++ [(edgesOf o).foldl (fun s e => s ||| (2 ^ e ||| acc.getD e 0)) 0])[j]? = none := List.getElem?_eq_none (by simp; omega)
            rw [List.getD_eq_getElem?_getD, this]; rfl
          rw [this] at hj; simp at hj

def dsOf (l : List Oper) (rc : List Rc) : List (Option Nat × AV) := List.zipWith (fun o r => (o.dst, r.v)) l rc
def esOf (rc : List Rc) : List (List (Nat × Option AB)) := rc.map (·.E)

theorem foldS_all {D D' : Nat → Bool} (l : List (Option Nat × AV)) (i : Nat) (sl : List AV) (h : ∀ k, k < l.length → D (i + k) = D' (i + k)) : foldS D i l sl = foldS D' i l sl := by
  induction l generalizing i sl with
  | nil => rfl
  | cons x l ih =>
    obtain ⟨d, v⟩ := x
    simp only [foldS]
    have := h 0 (by simp); simp only [Nat.add_zero] at this
    rw [this]
    exact ih (i + 1) _ fun k hk => by have := h (k + 1) (by simpa using hk); rwa [show i + (k + 1) = i + 1 + k by omega] at this
theorem foldH_all {D D' : Nat → Bool} (l : List (List (Nat × Option AB))) (i : Nat) (hp : Hp) (h : ∀ k, k < l.length → D (i + k) = D' (i + k)) : foldH D i l hp = foldH D' i l hp := by
  induction l generalizing i hp with
  | nil => rfl
  | cons x l ih =>
    simp only [foldH]
    have := h 0 (by simp); simp only [Nat.add_zero] at this
    rw [this]
    exact ih (i + 1) _ fun k hk => by have := h (k + 1) (by simpa using hk); rwa [show i + (k + 1) = i + 1 + k by omega] at this

theorem chain_len {P : Program} {ops : Array Oper} {base : Nat} : ∀ (l : List Oper) (i : Nat) (rc : List Rc) (sl : List AV) (hp : Hp) (sl' : List AV) (hp' : Hp), Chain P ops base i l rc sl hp sl' hp' → rc.length = l.length := by
  intro l
  induction l with
  | nil => intro i rc sl hp sl' hp' h; obtain ⟨rfl, _⟩ := h; rfl
  | cons o l ih => intro i rc sl hp sl' hp' h; obtain ⟨r, rc', rfl, _, h⟩ := h; simp [ih _ _ _ _ _ _ h]
theorem chain_end {P : Program} {ops : Array Oper} {base : Nat} : ∀ (l : List Oper) (i : Nat) (rc : List Rc) (sl : List AV) (hp : Hp) (sl' : List AV) (hp' : Hp), Chain P ops base i l rc sl hp sl' hp' →
    sl' = foldS (fun _ => true) i (dsOf l rc) sl ∧ hp' = foldH (fun _ => true) i (esOf rc) hp := by
  intro l
  induction l with
  | nil => intro i rc sl hp sl' hp' h; obtain ⟨rfl, rfl, rfl⟩ := h; exact ⟨rfl, rfl⟩
  | cons o l ih => intro i rc sl hp sl' hp' h; obtain ⟨r, rc', rfl, _, h⟩ := h; have := ih _ _ _ _ _ _ h; simpa [dsOf, esOf, foldS, foldH] using this
theorem foldS_none {D : Nat → Bool} (l : List (Option Nat × AV)) (i : Nat) (sl : List AV) (h : ∀ k, k < l.length → D (i + k) = false) : foldS D i l sl = sl := by
  induction l generalizing i sl with
  | nil => rfl
  | cons x l ih =>
    obtain ⟨d, v⟩ := x
    simp only [foldS]
    have := h 0 (by simp); simp only [Nat.add_zero] at this
    rw [this]
    exact ih (i + 1) _ fun k hk => by have := h (k + 1) (by simpa using hk); rwa [show i + (k + 1) = i + 1 + k by omega] at this
theorem foldH_none {D : Nat → Bool} (l : List (List (Nat × Option AB))) (i : Nat) (hp : Hp) (h : ∀ k, k < l.length → D (i + k) = false) : foldH D i l hp = hp := by
  induction l generalizing i hp with
  | nil => rfl
  | cons x l ih =>
    simp only [foldH]
    have := h 0 (by simp); simp only [Nat.add_zero] at this
    rw [this]
    exact ih (i + 1) _ fun k hk => by have := h (k + 1) (by simpa using hk); rwa [show i + (k + 1) = i + 1 + k by omega] at this
theorem chain_get {P : Program} {ops : Array Oper} {base : Nat} : ∀ (l : List Oper) (i : Nat) (rc : List Rc) (sl : List AV) (hp : Hp) (sl' : List AV) (hp' : Hp), Chain P ops base i l rc sl hp sl' hp' → ∀ (k : Nat) o, l[k]? = some o →
    ∃ r, rc[k]? = some r ∧ RcOk P ops (base + 8 * (i + k)) o (foldS (fun x => decide (x < i + k)) i (dsOf l rc) sl) (foldH (fun x => decide (x < i + k)) i (esOf rc) hp) r := by
  intro l
  induction l with
  | nil => intro i rc sl hp sl' hp' _ k o h; simp at h
  | cons p l ih =>
    intro i rc sl hp sl' hp' h k o hk
    obtain ⟨r, rc', rfl, hr, h⟩ := h
    cases k with
    | zero =>
      simp at hk; subst hk
      refine ⟨r, rfl, ?_⟩
      rw [foldS_none _ _ _ (by intro k _; simp), foldH_none _ _ _ (by intro k _; simp)]
      exact hr
    | succ k =>
      obtain ⟨r', h1, h2⟩ := ih _ _ _ _ _ _ h k o (by simpa using hk)
      refine ⟨r', by simpa using h1, ?_⟩
      simp only [dsOf, esOf, List.zipWith_cons_cons, List.map_cons, foldS, foldH] at h2 ⊢
      rw [if_pos (by simp), if_pos (by simp)]
      rw [show i + (k + 1) = i + 1 + k by omega]
      exact h2
/-- One more is done: the last of those that write its slot. -/
theorem foldS_ins {D : Nat → Bool} {q t : Nat} {d : Option Nat} {v : AV} (hq : D q = false) : ∀ (l : List (Option Nat × AV)) (i : Nat) (sl : List AV), i ≤ q → l[q - i]? = some (d, v) → (∀ (k : Nat) u, l[k]? = some (some t, u) → q < i + k → d = some t → D (i + k) = false) →
    (foldS (fun x => x == q || D x) i l sl).getD t .no = (putA (foldS D i l sl) d v).getD t .no := by
  intro l
  induction l with
  | nil => intro i sl _ h; simp at h
  | cons x l ih =>
    intro i sl hi h hD
    obtain ⟨d', v'⟩ := x
    simp only [foldS]
    by_cases e : i = q
    · subst e
      simp only [Nat.sub_self, List.getElem?_cons_zero, Option.some.injEq, Prod.mk.injEq] at h
      obtain ⟨rfl, rfl⟩ := h
      simp only [hq, beq_self_eq_true, Bool.true_or, if_true, Bool.false_eq_true, if_false]
      rw [putA_getD, foldS_len]
      by_cases hd : d' = some t
      · have h1 : (foldS (fun x => x == i || D x) (i + 1) l (putA sl d' v')).getD t .no = (foldS (fun _ => false) (i + 1) l (putA sl d' v')).getD t .no := by
          refine foldS_agree _ _ _ _ rfl rfl fun k u hk => ?_
          have := hD (k + 1) u (by simpa using hk) (by omega) hd
          rw [show i + (k + 1) = i + 1 + k by omega] at this
          simp [this]; omega
        rw [h1, foldS_none _ _ _ (fun _ _ => rfl), putA_getD]
        by_cases ht : t < sl.length
        · simp [hd, ht]
        · have : (foldS D (i + 1) l sl).getD t .no = sl.getD t .no := by
            have e1 : (foldS D (i + 1) l sl)[t]? = none := List.getElem?_eq_none (by rw [foldS_len]; omega)
            have e2 : sl[t]? = none := List.getElem?_eq_none (by omega)
            simp [List.getD, e1, e2]
          rw [if_neg (fun h => ht h.2), if_neg (fun h => ht h.2), this]
      · rw [if_neg (fun h => hd h.1)]
        refine foldS_agree _ _ _ _ (by simp [putA_len]) (by rw [putA_getD, if_neg (fun h => hd h.1)]) fun k u hk => ?_
        have : (i + 1 + k == i) = false := by simp; omega
        simp [this]
    · have e' : (i == q) = false := by simpa using e
      simp only [e', Bool.false_or]
      refine ih (i + 1) _ (by omega) (by rw [show q - i = q - (i + 1) + 1 by omega] at h; simpa using h) fun k u hk hlt hd => ?_
      have := hD (k + 1) u (by simpa using hk) (by omega) hd
      rwa [show i + (k + 1) = i + 1 + k by omega] at this
theorem foldH_ins {D : Nat → Bool} {q id : Nat} {E : List (Nat × Option AB)} (hq : D q = false) : ∀ (l : List (List (Nat × Option AB))) (i : Nat) (hp : Hp), i ≤ q → l[q - i]? = some E → (∀ (k : Nat) E', l[k]? = some E' → id ∈ E'.map Prod.fst → q < i + k → id ∈ E.map Prod.fst → D (i + k) = false) →
    hget (foldH (fun x => x == q || D x) i l hp) id = hget (happly (foldH D i l hp) E) id := by
  intro l
  induction l with
  | nil => intro i hp _ h; simp at h
  | cons E' l ih =>
    intro i hp hi h hD
    simp only [foldH]
    by_cases e : i = q
    · subst e
      simp only [Nat.sub_self, List.getElem?_cons_zero, Option.some.injEq] at h
      subst h
      simp only [hq, beq_self_eq_true, Bool.true_or, if_true, Bool.false_eq_true, if_false]
      by_cases hid : id ∈ E'.map Prod.fst
      · have hoff : ∀ (k : Nat) E'', l[k]? = some E'' → id ∈ E''.map Prod.fst → D (i + 1 + k) = false := fun k E'' hk hid' => by
          have := hD (k + 1) E'' (by simpa using hk) hid' (by omega) hid
          rwa [show i + (k + 1) = i + 1 + k by omega] at this
        have h1 : hget (foldH (fun x => x == i || D x) (i + 1) l (happly hp E')) id = hget (foldH (fun _ => false) (i + 1) l (happly hp E')) id :=
          foldH_agree _ _ _ _ rfl fun k E'' hk hid' => by simp [hoff k E'' hk hid']; omega
        have h2 : hget (foldH D (i + 1) l hp) id = hget (foldH (fun _ => false) (i + 1) l hp) id := foldH_agree _ _ _ _ rfl fun k E'' hk hid' => hoff k E'' hk hid'
        rw [h1, foldH_none _ _ _ (fun _ _ => rfl)]
        rw [foldH_none (D := fun _ => false) _ _ _ (fun _ _ => rfl)] at h2
        exact happly_same h2.symm
      · rw [happly_other hid]
        refine foldH_agree _ _ _ _ (by rw [happly_other hid]) fun k E'' hk _ => ?_
        have : (i + 1 + k == i) = false := by simp; omega
        simp [this]
    · have e' : (i == q) = false := by simpa using e
      simp only [e', Bool.false_or]
      refine ih (i + 1) _ (by omega) (by rw [show q - i = q - (i + 1) + 1 by omega] at h; simpa using h) fun k E'' hk hid hlt hid' => ?_
      have := hD (k + 1) E'' (by simpa using hk) hid (by omega) hid'
      rwa [show i + (k + 1) = i + 1 + k by omega] at this
end Go.Proofs.Ytekdfddodabfcaa
/- The engine, part W: a statement that draws its order. -/
namespace Go.Proofs.Ytekdfddodabfcaa
open Go.RowKit
set_option linter.unusedVariables false
set_option linter.unusedSimpArgs false

section
variable {P : Program} {G G' : Gh} {On On' : Nat → Prop} {w w' : World} {B : Fr} {w0 : World} {σ : St} {a : Act} {ops : Array Oper}

/-- A description of the blocks is read by its numbers alone. -/
theorem Rel.hpeq {sl : List AV} {hp hp' : Hp} (h : Rel P B w0 G On ⟨sl, hp⟩ a w) (he : ∀ id, hget hp' id = hget hp id) : Rel P B w0 G On ⟨sl, hp'⟩ a w :=
  ⟨h.bel, h.base, h.sl, fun id blk hb => h.hp id blk (by rw [← he id]; exact hb), h.own, fun id hn => h.dead id (by rw [← he id]; exact hn), h.dis, h.df, h.an⟩

theorem ev_same {sl sl' : List AV} {x : Operand} (h : ∀ t, tmpOf x = some t → sl'.getD t .no = sl.getD t .no) : ev sl' x = ev sl x := by
  cases x <;> first | rfl | exact h _ rfl

theorem getD_of_listed {listed : Array Bool} {j : Nat} (h : j < listed.size) (b : Bool) : listed.getD j b = listed.getD j false := by
  simp [Array.getD, h]

/-- The set of the operations done, and what each of them has given out. -/
def OnD (base : Nat) (rc : List Rc) (D : Nat → Bool) : Nat → Prop := fun id => id < base ∨ ∃ (k : Nat) (r : Rc), rc[k]? = some r ∧ D k = true ∧ id ∈ r.E.map Prod.fst

theorem foldH_len (D : Nat → Bool) : ∀ (l : List (List (Nat × Option AB))) (i : Nat) (hp : Hp), hp.length ≤ (foldH D i l hp).length ∧ ∀ (k : Nat) E, l[k]? = some E → D (i + k) = true → ∀ id ∈ E.map Prod.fst, id < (foldH D i l hp).length := by
  intro l
  induction l with
  | nil => intro i hp; exact ⟨Nat.le_refl _, fun k E h => by simp at h⟩
  | cons E l ih =>
    intro i hp
    simp only [foldH]
    have h1 := ih (i + 1) (if D i = true then happly hp E else hp)
    have h2 := happly_len hp E
    refine ⟨?_, fun k E' hk hD id hid => ?_⟩
    · refine Nat.le_trans ?_ h1.1
      split
      · exact h2.1
      · exact Nat.le_refl _
    · cases k with
      | zero =>
        simp at hk; subst hk
        simp only [Nat.add_zero] at hD
        refine Nat.lt_of_lt_of_le ?_ h1.1
        rw [if_pos hD]
        exact h2.2 id hid
      | succ k => exact h1.2 k E' (by simpa using hk) (by rwa [show i + 1 + k = i + (k + 1) by omega]) id hid

theorem mem_edges {o : Oper} {e : Nat} : e ∈ edgesOf o ↔ ∃ x ∈ o.after.toList, Region.binds .any x = true ∧ x.on = e := by
  simp only [edgesOf, List.mem_map, List.mem_filter]
  constructor
  · rintro ⟨x, ⟨h1, h2⟩, h3⟩; exact ⟨x, h1, h2, h3⟩
  · rintro ⟨x, h1, h2, h3⟩; exact ⟨x, ⟨h1, h2⟩, h3⟩

/-- Nobody is ready: all are listed. -/
theorem all_listed {listed : Array Bool} (hlt : ∀ (i : Nat) o e, ops.toList[i]? = some o → e ∈ edgesOf o → e < i) (h : Region.ready .any ops listed = []) (hsz : listed.size = ops.size) : ∀ i, i < ops.size → listed.getD i false = true := by
  intro i
  induction i using Nat.strongRecOn with
  | ind i ih =>
    intro hi
    by_cases hc : listed.getD i false = true
    · exact hc
    · exfalso
      have : i ∈ Region.ready .any ops listed := by
        simp only [Region.ready, List.mem_filter, List.mem_range]
        refine ⟨hi, ?_⟩
        have ho : ops[i]? = some ops[i] := by simp [hi]
        rw [getD_of_listed (by omega), ho]
        simp only [Option.map_some, Option.getD_some, Bool.and_eq_true, Bool.not_eq_true', Array.all_eq_true']
        refine ⟨by simpa using hc, fun e he => ?_⟩
        by_cases hb : Region.binds .any e = true
        · have hm : e.on ∈ edgesOf ops[i] := mem_edges.2 ⟨e, by simpa using he, hb, rfl⟩
          have h1 := hlt i ops[i] e.on (by simp [hi]) hm
          simp [ih e.on h1 (by omega)]
        · simp [hb]
      rw [h] at this; cases this

theorem count_listed {listed : Array Bool} {i : Nat} (h : i < listed.size) (hf : listed.getD i false = false) : (listed.setIfInBounds i true).toList.count false + 1 = listed.toList.count false := by
  have h' : i < listed.toList.length := by simpa using h
  have h1 : listed.toList[i]'h' = false := by simpa [Array.getD, h] using hf
  have h2 : false ∈ listed.toList := by rw [← h1]; exact List.getElem_mem h'
  have h3 := List.count_pos_iff.2 h2
  rw [Array.toList_setIfInBounds, List.count_set (h := h'), h1]
  have h4 : (if (true == false) = true then 1 else 0) = 0 := rfl
  have h5 : (if (false == false) = true then 1 else 0) = 1 := rfl
  rw [h4, h5]; omega

theorem draw_sound {base : Nat} {rc : List Rc} {sl0 sl' : List AV} {hp0 hp' : Hp} {Q : Exit → Act → World → Prop} (hch : Chain P ops base 0 ops.toList rc sl0 hp0 sl' hp') (hbase : base = hp0.length)
    (hok : okDraw ops base (rc.map fun r => (ids r.T, r.E.map Prod.fst)) = true) (hQ : ∀ G a w, SRel P B w0 G ⟨sl', hp'⟩ a w → Q .normal a w) :
    ∀ (fuel : Nat) (listed : Array Bool) (G : Gh) (a : Act) (w : World), listed.size = ops.size → listed.toList.count false ≤ fuel →
      (∀ (i : Nat) o e, ops.toList[i]? = some o → e ∈ edgesOf o → listed.getD i false = true → listed.getD e false = true) →
      Rel P B w0 G (OnD base rc fun j => listed.getD j false) ⟨foldS (fun j => listed.getD j false) 0 (dsOf ops.toList rc) sl0, foldH (fun j => listed.getD j false) 0 (esOf rc) hp0⟩ a w →
      wpAny P .any ops Q fuel listed a w := by
  have hlen := chain_len _ _ _ _ _ _ _ hch
  simp only [okDraw, Bool.and_eq_true, List.all_eq_true, List.mem_range] at hok
  obtain ⟨⟨⟨hk0, hk1⟩, hk2⟩, hk3⟩ := hok
  have hlt : ∀ (i : Nat) o e, ops.toList[i]? = some o → e ∈ edgesOf o → e < i := by
    intro i o e ho he
    rw [Array.getElem?_toList] at ho
    have hi : i < ops.size := by
      rcases Nat.lt_or_ge i ops.size with h | h
      · exact h
      · simp [Array.getElem?_eq_none h] at ho
    have := hk1 i hi
    rw [ho] at this
    simp only [List.all_eq_true, decide_eq_true_eq] at this
    exact this e he
  have hend : ∀ (G : Gh) (listed : Array Bool) (a : Act) (w : World), listed.size = ops.size → (∀ i, i < ops.size → listed.getD i false = true) →
      Rel P B w0 G (OnD base rc fun j => listed.getD j false) ⟨foldS (fun j => listed.getD j false) 0 (dsOf ops.toList rc) sl0, foldH (fun j => listed.getD j false) 0 (esOf rc) hp0⟩ a w → Q .normal a w := by
    intro G listed a w hsz hall hr
    obtain ⟨e1, e2⟩ := chain_end _ _ _ _ _ _ _ hch
    have hz : rc.length = ops.size := by simpa using hlen
    rw [foldS_all (D' := fun _ => true) _ _ _ (fun k hk => by simp only [Nat.zero_add]; exact hall k (by simp [dsOf] at hk; omega)),
      foldH_all (D' := fun _ => true) _ _ _ (fun k hk => by simp only [Nat.zero_add]; exact hall k (by simp [esOf] at hk; omega)), ← e1, ← e2] at hr
    refine hQ G a w (hr.more fun id hid => ?_)
    have hl := foldH_len (fun _ => true) (esOf rc) 0 hp0
    rw [← e2] at hl
    rcases hid with hid | ⟨k, r, h1, h2, h3⟩
    · show id < hp'.length; have := hl.1; omega
    · exact hl.2 k r.E (by simp [esOf, h1]) rfl id h3
  intro fuel
  induction fuel with
  | zero =>
    intro listed G a w hsz hc hcl hr
    have hall : ∀ i, i < ops.size → listed.getD i false = true := by
      intro i hi
      by_cases h : listed.getD i false = true
      · exact h
      · have := count_listed (by omega : i < listed.size) (by simpa using h); omega
    refine ⟨?_, hend G listed a w hsz hall hr⟩
    simp only [Region.ready, List.filter_eq_nil_iff, List.mem_range]
    intro i hi
    rw [getD_of_listed (by omega), hall i hi]; simp
  | succ fuel ih =>
    intro listed G a w hsz hc hcl hr
    refine ⟨fun hn => hend G listed a w hsz (all_listed hlt hn hsz) hr, fun i hi => ?_⟩
    simp only [Region.ready, List.mem_filter, List.mem_range, Bool.and_eq_true, Bool.not_eq_true'] at hi
    obtain ⟨hi, hi1, hi2⟩ := hi
    rw [getD_of_listed (by omega)] at hi1
    have ho : ops[i]? = some ops[i] := by simp [hi]
    generalize hoo : ops[i] = o at ho
    rw [ho] at hi2
    simp only [Option.map_some, Option.getD_some, Array.all_eq_true'] at hi2
    have hot : ops.toList[i]? = some o := by rw [Array.getElem?_toList]; exact ho
    have hset : ∀ j, (listed.setIfInBounds i true).getD j false = (j == i || listed.getD j false) := by
      intro j
      simp only [Array.getD_eq_getD_getElem?, Array.getElem?_setIfInBounds]
      by_cases e : i = j
      · subst e; simp [hsz, hi]
      · have : (j == i) = false := by simp; omega
        simp [e, this]
    have hedge : ∀ e ∈ edgesOf o, listed.getD e false = true := by
      intro e he
      obtain ⟨x, h1, h2, rfl⟩ := mem_edges.1 he
      have := hi2 x (by simpa using h1)
      simpa [h2] using this
    have hcl' : ∀ (i' : Nat) o' e, ops.toList[i']? = some o' → e ∈ edgesOf o' → (listed.setIfInBounds i true).getD i' false = true → (listed.setIfInBounds i true).getD e false = true := by
      intro i' o' e h1 h2 h3
      rw [hset] at h3 ⊢
      rcases Bool.or_eq_true_iff.1 h3 with h3 | h3
      · have : i' = i := by simpa using h3
        subst this
        rw [hot] at h1; injection h1 with h1; subst h1
        rw [hedge e h2]; simp
      · rw [hcl i' o' e h1 h2 h3]; simp
    -- who is in order with operation i
    have hcs := cls_sound (D := fun j => (listed.setIfInBounds i true).getD j false) (l0 := ops.toList) hcl' hlt ops.toList [] (by simp) (by simp)
    have hcs0 := cls_sound (D := fun j => listed.getD j false) (l0 := ops.toList) hcl hlt ops.toList [] (by simp) (by simp)
    obtain ⟨r, hrc, hro⟩ := chain_get _ _ _ _ _ _ _ hch i o hot
    simp only [Nat.zero_add] at hro
    have hun : ∀ k p rk, ops.toList[k]? = some p → rc[k]? = some rk → listed.getD k false = decide (k < i) ∨ k ≠ i ∧ (∀ d, p.dst = some d → d ∉ readsOf ops o ∧ o.dst ≠ some d) ∧ (∀ id ∈ rk.E.map Prod.fst, id ∉ ids r.T ∧ id ∉ r.E.map Prod.fst) := by
      intro k p rk hp hrk
      have hk : k < ops.size := by
        rcases Nat.lt_or_ge k ops.size with h | h
        · exact h
        · rw [Array.getElem?_toList, Array.getElem?_eq_none h] at hp; cases hp
      by_cases hki : k = i
      · left; subst hki; rw [hi1]; simp
      have hpo := hk2 i hi k hk
      simp only [pairOk, Bool.or_eq_true, beq_iff_eq] at hpo
      rcases hpo with ((h | h) | h) | h
      · exact absurd h.symm hki
      · left
        have := hcs i k h
        have h1 := this.1 (by simp [hset])
        simp only [hset] at h1
        have : (k == i) = false := by simpa using hki
        rw [this, Bool.false_or] at h1
        rw [h1]; simp; omega
      · left
        have := hcs0 k i h
        have h1 : listed.getD k false = false := by
          cases hh : listed.getD k false with
          | false => rfl
          | true => have := this.1 hh; rw [hi1] at this; cases this
        rw [h1]; simp; omega
      · right
        rw [Array.getElem?_toList] at hp
        simp only [ho, hp, List.getElem?_map, hrc, hrk, Option.map_some, Bool.and_eq_true] at h
        obtain ⟨⟨h1, h2⟩, h3⟩ := h
        refine ⟨hki, fun d hd => ?_, fun id hid => ?_⟩
        · rw [hd] at h1
          simp only [Bool.and_eq_true, Bool.not_eq_true', bne_iff_ne] at h1
          exact ⟨by simpa using h1.1, h1.2⟩
        · simp only [disj, List.all_eq_true, Bool.not_eq_true'] at h2 h3
          exact ⟨by simpa using h2 id hid, by simpa using h3 id hid⟩
    have hdk : ∀ (k : Nat) d v, (dsOf ops.toList rc)[k]? = some (d, v) → ∃ p rk, ops.toList[k]? = some p ∧ rc[k]? = some rk ∧ p.dst = d ∧ rk.v = v := by
      intro k d v hk
      simp only [dsOf, List.getElem?_zipWith] at hk
      split at hk
      · rename_i p rk h1 h2
        simp only [Option.some.injEq, Prod.mk.injEq] at hk
        exact ⟨p, rk, h1, h2, hk.1, hk.2⟩
      · cases hk
    have hek : ∀ (k : Nat) E, (esOf rc)[k]? = some E → ∃ p rk, ops.toList[k]? = some p ∧ rc[k]? = some rk ∧ rk.E = E := by
      intro k E hk
      simp only [esOf, List.getElem?_map, Option.map_eq_some_iff] at hk
      obtain ⟨rk, h1, h2⟩ := hk
      have hkl : k < ops.toList.length := by
        rw [← hlen]
        rcases Nat.lt_or_ge k rc.length with h | h
        · exact h
        · rw [List.getElem?_eq_none h] at h1; cases h1
      exact ⟨_, rk, List.getElem?_eq_getElem hkl, h1, h2⟩
    -- the operation sees what it saw
    have hslot : ∀ t, t ∈ readsOf ops o → (foldS (fun j => listed.getD j false) 0 (dsOf ops.toList rc) sl0).getD t .no = (foldS (fun x => decide (x < i)) 0 (dsOf ops.toList rc) sl0).getD t .no := by
      intro t ht
      refine foldS_agree _ _ _ _ rfl rfl fun k v hk => ?_
      obtain ⟨p, rk, h1, h2, h3, _⟩ := hdk k _ v hk
      simp only [Nat.zero_add]
      rcases hun k p rk h1 h2 with h | ⟨_, h, _⟩
      · exact h
      · exact absurd ht (h t h3).1
    have hT : ∀ x ∈ r.T, hget (foldH (fun j => listed.getD j false) 0 (esOf rc) hp0) x.1 = hget (foldH (fun x => decide (x < i)) 0 (esOf rc) hp0) x.1 := by
      intro x hx
      refine foldH_agree _ _ _ _ rfl fun k E hk hid => ?_
      obtain ⟨p, rk, h1, h2, rfl⟩ := hek k E hk
      simp only [Nat.zero_add]
      rcases hun k p rk h1 h2 with h | ⟨_, _, h⟩
      · exact h
      · exact absurd (by simp only [ids, List.mem_map]; exact ⟨x, hx, rfl⟩) (h _ hid).1
    -- the state behind it
    have hslot' : foldS (fun j => (listed.setIfInBounds i true).getD j false) 0 (dsOf ops.toList rc) sl0 = putA (foldS (fun j => listed.getD j false) 0 (dsOf ops.toList rc) sl0) o.dst r.v := by
      have hfe : (fun j => (listed.setIfInBounds i true).getD j false) = fun j => j == i || listed.getD j false := funext hset
      rw [hfe]
      apply List.ext_getElem?
      intro t
      have h1 := foldS_ins (D := fun j => listed.getD j false) (q := i) (t := t) (d := o.dst) (v := r.v) hi1 (dsOf ops.toList rc) 0 sl0 (Nat.zero_le _)
        (by simp only [Nat.sub_zero, dsOf, List.getElem?_zipWith, hot, hrc]) (fun k u hk hlt hd => by
          obtain ⟨p, rk, h1, h2, h3, _⟩ := hdk k _ u hk
          simp only [Nat.zero_add] at hlt ⊢
          rcases hun k p rk h1 h2 with h | ⟨_, h, _⟩
          · rw [h]; simp; omega
          · exact absurd hd (h t h3).2)
      have hl1 : (foldS (fun j => j == i || listed.getD j false) 0 (dsOf ops.toList rc) sl0).length = sl0.length := foldS_len _ _ _ _
      have hl2 : (putA (foldS (fun j => listed.getD j false) 0 (dsOf ops.toList rc) sl0) o.dst r.v).length = sl0.length := by rw [putA_len, foldS_len]
      by_cases ht : t < sl0.length
      · rw [List.getElem?_eq_getElem (by omega), List.getElem?_eq_getElem (by omega)]
        rw [List.getD_eq_getElem?_getD, List.getD_eq_getElem?_getD, List.getElem?_eq_getElem (by omega), List.getElem?_eq_getElem (by omega)] at h1
        simpa using h1
      · rw [List.getElem?_eq_none (by omega), List.getElem?_eq_none (by omega)]
    have hheap' : ∀ id, hget (foldH (fun j => (listed.setIfInBounds i true).getD j false) 0 (esOf rc) hp0) id = hget (happly (foldH (fun j => listed.getD j false) 0 (esOf rc) hp0) r.E) id := by
      have hfe : (fun j => (listed.setIfInBounds i true).getD j false) = fun j => j == i || listed.getD j false := funext hset
      rw [hfe]
      intro id
      refine foldH_ins (D := fun j => listed.getD j false) (q := i) hi1 (esOf rc) 0 hp0 (Nat.zero_le _) (by simp [esOf, hrc]) fun k E' hk hid hlt hid' => ?_
      obtain ⟨p, rk, h1, h2, rfl⟩ := hek k E' hk
      simp only [Nat.zero_add] at hlt ⊢
      rcases hun k p rk h1 h2 with h | ⟨_, _, h⟩
      · rw [h]; simp; omega
      · exact absurd hid' (h _ hid).2
    have hnext : ∀ (G' : Gh) (a' : Act) (w' : World) (On' : Nat → Prop), (∀ id, On' id → OnD base rc (fun j => (listed.setIfInBounds i true).getD j false) id) →
        Rel P B w0 G' On' ⟨putA (foldS (fun j => listed.getD j false) 0 (dsOf ops.toList rc) sl0) o.dst r.v, happly (foldH (fun j => listed.getD j false) 0 (esOf rc) hp0) r.E⟩ a' w' →
        wpAny P .any ops Q fuel (listed.setIfInBounds i true) a' w' := by
      intro G' a' w' On' hOn hr'
      refine ih _ G' a' w' (by simpa using hsz) ?_ hcl' ?_
      · have := count_listed (by omega : i < listed.size) hi1; omega
      · rw [hslot']; exact (hr'.hpeq hheap').more hOn
    have hOnMono : ∀ id, OnD base rc (fun j => listed.getD j false) id → OnD base rc (fun j => (listed.setIfInBounds i true).getD j false) id := by
      rintro id (h | ⟨k, rk, h1, h2, h3⟩)
      · exact .inl h
      · exact .inr ⟨k, rk, h1, by simp only [hset, h2, Bool.or_true], h3⟩
    obtain ⟨hg, hon, hoff⟩ := hro
    have hgd : ∀ j want t, guardA ops (foldS (fun x => decide (x < i)) 0 (dsOf ops.toList rc) sl0) j want = some t → o.guard = some (j, want) → guardA ops (foldS (fun j => listed.getD j false) 0 (dsOf ops.toList rc) sl0) j want = some t := by
      intro j want t h hgw
      unfold guardA at h ⊢
      cases hd : (ops[j]?).bind (·.dst) with
      | none => rw [hd] at h; cases h
      | some d =>
        rw [hd] at h
        simp only at h ⊢
        rw [hslot d (by simp [readsOf, hgw, hd])]; exact h
    have hrun : r.on = true → wpOp P ops Q i (wpAny P .any ops Q fuel (listed.setIfInBounds i true)) a w ∨ True := fun _ => .inr trivial
    have hdo : r.on = true → o.wp P a w (wpAny P .any ops Q fuel (listed.setIfInBounds i true)) Q := by
      intro hron
      obtain ⟨hs, h1, h2⟩ := hon hron
      refine hs _ _ (OnD base rc fun j => listed.getD j false) (fun x hx => ?_) (fun x hx => ?_) (fun id h4 h5 hO => ?_) B w0 G a w hr _ Q fun G' a' w' hr' => ?_
      · rw [← (h1 x hx).1]
        exact ev_same fun t ht => hslot t (by
          simp only [readsOf, List.mem_append, List.mem_filterMap]
          exact .inl ⟨x.1, by simpa using (h1 x hx).2, ht⟩)
      · rw [hT x hx]; exact h2 x hx
      · rcases hO with hO | ⟨k, rk, e1, e2, e3⟩
        · omega
        · have hkl : k < ops.size := by
            have : k < rc.length := by
              rcases Nat.lt_or_ge k rc.length with h | h
              · exact h
              · rw [List.getElem?_eq_none h] at e1; cases e1
            simp at hlen; omega
          have := hk3 k hkl
          simp only [List.getElem?_map, e1, Option.map_some, List.all_eq_true, Bool.or_eq_true, decide_eq_true_eq] at this
          have := this id e3
          have hdiv : (id - base) / 8 = i := by omega
          rw [hdiv] at this
          rcases this with this | this
          rotate_left
          · have h9 := (hcs0 k i this).1 e2
            rw [hi1] at h9; cases h9
          have hne : k ≠ i := fun e => by subst e; have e2' : listed.getD k false = true := e2; rw [hi1] at e2'; cases e2'
          omega
      · refine hnext G' a' w' _ (fun id hid => ?_) hr'
        rcases hid with hid | hid
        · exact hOnMono id hid
        · exact .inr ⟨i, r, hrc, by simp [hset], hid⟩
    unfold wpOp
    rw [ho]
    simp only
    cases hgg : o.guard with
    | none =>
      rw [hgg] at hg
      rw [if_pos (by simp [Region.wanted, hgg])]
      exact .inl (hdo hg)
    | some jw =>
      obtain ⟨j, want⟩ := jw
      rw [hgg] at hg
      simp only at hg
      have hy := guard_sound hr (hgd j want _ hg hgg)
      cases hron : r.on with
      | true =>
        rw [if_pos (by simp [Region.wanted, hgg, hy, hron])]
        exact .inl (hdo hron)
      | false =>
        rw [if_neg (by simp [Region.wanted, hgg, hy, hron])]
        obtain ⟨e1, e2, e3⟩ := hoff hron
        refine hnext G _ w _ hOnMono ?_
        rw [e1, e2]
        exact hr.put o.dst (x := unA) (v := undef) ⟨#[], rfl, .nil⟩

/-- A statement that draws its order: its operations in the text's order tell the state; okDraw tells that no other order comes to another. -/
theorem wp_region_draws {id : Nat} {Q : Exit → Act → World → Prop} {sl : List AV} {hp : Hp} {K : List AV → Hp → Prop} (hm : P.follows .mixedOrders = true) (hr : SRel P B w0 G ⟨sl, hp⟩ a w)
    (h : ADraw P ops hp.length (fun sl' hp' acc => okDraw ops hp.length acc = true ∧ K sl' hp') 0 ops.toList sl hp [])
    (hQ : ∀ G sl' hp' a w, K sl' hp' → SRel P B w0 G ⟨sl', hp'⟩ a w → Q .normal a w) : (Code.region id ops true).wp P Q a w := by
  obtain ⟨rc, sl', hp', hc, hok, hk⟩ := adraw_chain _ _ _ _ _ h
  rw [List.nil_append] at hok
  refine wp_region_any hm (draw_sound (base := hp.length) hc rfl hok (fun G a w hr => hQ G sl' hp' a w hk hr) ops.size _ G a _ (by simp) ?_ ?_ ?_)
  · simp
  · intro i o e _ _ h
    simp [Array.getD] at h
  · have hz : ∀ j, (Array.replicate ops.size false).getD j false = false := by intro j; simp [Array.getD]
    rw [foldS_none _ _ _ (fun k _ => hz _), foldH_none _ _ _ (fun k _ => hz _)]
    exact (hr.drew).more fun id hid => .inl hid
end
end Go.Proofs.Ytekdfddodabfcaa
/- The engine, part X: less is said of a state: slots and blocks are forgotten, numbers change. -/
namespace Go.Proofs.Ytekdfddodabfcaa
open Go.RowKit
set_option linter.unusedVariables false
set_option linter.unusedSimpArgs false

def FPle (R : List Nat) : List (Nat × Nat) → List (Nat × Nat) → Prop
  | [], [] => True
  | p :: l, q :: m => R[q.1]? = some p.1 ∧ p.2 = q.2 ∧ FPle R l m
  | _, _ => False
/-- c' says no more than c; its numbers j are c's numbers R[j]. -/
def CVle (R : List Nat) : CV → CV → Prop
  | _, .no => True
  | .v x, .v y => x = y
  | .ro e ls, .ro e' ls' => e = e' ∧ ls = ls'
  | .sl id n, .sl j m => R[j]? = some id ∧ n = m
  | .sb id lo n, .sb j lo' m => R[j]? = some id ∧ lo = lo' ∧ n = m
  | .inn id i k, .inn j i' k' => R[j]? = some id ∧ i = i' ∧ k = k'
  | .pt id off, .pt j off' => R[j]? = some id ∧ off = off'
  | .rp id i off, .rp j i' off' => R[j]? = some id ∧ i = i' ∧ off = off'
  | .tp cs off, .tp cs' off' => cs = cs' ∧ off = off'
  | .mp id, .mp j => R[j]? = some id
  | .fn f ps, .fn f' ps' => f = f' ∧ FPle R ps ps'
  | _, _ => False
def CVles (R : List Nat) : List CV → List CV → Prop
  | [], [] => True
  | c :: l, d :: m => CVle R c d ∧ CVles R l m
  | _, _ => False
def PVle (R : List Nat) : CV ⊕ List CV → CV ⊕ List CV → Prop
  | .inl c, .inl d => CVle R c d
  | .inr l, .inr m => CVles R l m
  | _, _ => False
def PVles (R : List Nat) : List (CV ⊕ List CV) → List (CV ⊕ List CV) → Prop
  | [], [] => True
  | c :: l, d :: m => PVle R c d ∧ PVles R l m
  | _, _ => False
def AVle (R : List Nat) : AV → AV → Prop
  | _, .no => True
  | .c x, .c y => CVle R x y
  | .ag xs, .ag ys => CVles R xs ys
  | .tu xs, .tu ys => PVles R xs ys
  | _, _ => False
def AVles (R : List Nat) : List AV → List AV → Prop
  | [], [] => True
  | c :: l, d :: m => AVle R c d ∧ AVles R l m
  | _, _ => False
def ABle (R : List Nat) : AB → AB → Prop
  | .var t cs, .var t' cs' => t = t' ∧ CVles R cs cs'
  | .row pn e ls, .row pn' e' ls' => e = e' ∧ ls = ls' ∧ (pn' = true → pn = true)
  | .ob o, .ob o' => o = o'
  | _, _ => False
/-- The blocks, one by one. -/
def ABles (R : List Nat) (hp : Hp) : List Nat → Hp → Prop
  | [], [] => True
  | id :: l, x :: m => (match x with
    | none => True
    | some b' => ∃ b, hget hp id = some b ∧ ABle R b b') ∧ id < hp.length ∧ ABles R hp l m
  | _, _ => False
/-- σ' says no more than σ. -/
def Wk (n : Nat) (R : List Nat) (σ σ' : St) : Prop :=
  R.Nodup ∧ n ≤ R.length ∧ R.take n = List.range n ∧ AVles R σ.sl σ'.sl ∧ ABles R σ.hp R σ'.hp

section
variable {P : Program} {G G' : Gh} {On On' : Nat → Prop} {w w' : World} {B : Fr} {w0 : World} {σ σ' : St} {a : Act} {R : List Nat}

theorem ABles.get {hp : Hp} : ∀ {l : List Nat} {m : Hp}, ABles R hp l m → l.length = m.length ∧ (∀ id ∈ l, id < hp.length) ∧ ∀ (j : Nat) b', hget m j = some b' → ∃ id b, l[j]? = some id ∧ hget hp id = some b ∧ ABle R b b' := by
  intro l
  induction l with
  | nil =>
    intro m h
    cases m with
    | nil => exact ⟨rfl, by simp, fun j b' h => by simp [hget] at h⟩
    | cons x m => exact h.elim
  | cons id l ih =>
    intro m h
    cases m with
    | nil => exact h.elim
    | cons x m =>
      obtain ⟨h1, h2, h3⟩ := h
      obtain ⟨i1, i2, i3⟩ := ih h3
      refine ⟨by simp [i1], by simpa using ⟨h2, i2⟩, fun j b' hj => ?_⟩
      cases j with
      | zero =>
        simp only [hget, List.getElem?_cons_zero, Option.getD_some] at hj
        subst hj
        obtain ⟨b, hb, hle⟩ := h1
        exact ⟨id, b, rfl, hb, hle⟩
      | succ j =>
        obtain ⟨id', b, e1, e2, e3⟩ := i3 j b' (by simpa [hget] using hj)
        exact ⟨id', b, by simpa using e1, e2, e3⟩

/-- What must hold between the ghosts for readings to pass. -/
structure Pass (R : List Nat) (G : Gh) (On : Nat → Prop) (G' : Gh) (On' : Nat → Prop) (w : World) : Prop where
  on : ∀ (j : Nat) id, R[j]? = some id → On' j
  uo : ∀ k, Uo G w k → Uo G' w k
  gb : ∀ (j : Nat) id, R[j]? = some id → (G' j).b = (G id).b ∧ (G' j).nl = (G id).nl ∧ (G' j).cap = (G id).cap ∧ (G' j).sz = (G id).sz ∧ (∀ i k, (G' j).pin i k → (G id).pin i k)

theorem FPle.pass (hp : ∀ (j : Nat) id, R[j]? = some id → On' j ∧ (G' j).b = (G id).b) : ∀ {ps qs : List (Nat × Nat)}, FPle R ps qs → (∀ q ∈ qs, On' q.1) ∧ (ps.map fun p => Value.pointer (some ⟨(G p.1).b, p.2, none⟩)) = qs.map fun p => Value.pointer (some ⟨(G' p.1).b, p.2, none⟩) := by
  intro ps
  induction ps with
  | nil => intro qs h; cases qs with
    | nil => exact ⟨by simp, rfl⟩
    | cons => exact h.elim
  | cons p ps ih => intro qs h; cases qs with
    | nil => exact h.elim
    | cons q qs =>
      obtain ⟨h1, h2, h3⟩ := h
      obtain ⟨i1, i2⟩ := ih h3
      refine ⟨?_, ?_⟩
      · intro x hx
        rcases List.mem_cons.1 hx with rfl | hx
        · exact (hp _ _ h1).1
        · exact i1 x hx
      · simp only [List.map_cons]; rw [i2, h2, (hp _ _ h1).2]
theorem Cr.pass (hp : Pass R G On G' On' w) {c d : CV} {y : Value} (h : Cr P G On w c y) (hle : CVle R c d) : Cr P G' On' w d y := by
  cases d with
  | no => exact h.one
  | v x => cases c <;> first | exact hle.elim | skip
           obtain rfl := hle; exact h
  | ro e ls => cases c <;> first | exact hle.elim | skip
               obtain ⟨rfl, rfl⟩ := hle; exact K.move h (fun k hk => hp.uo k hk) (fun _ _ => rfl)
  | sl j m => cases c <;> first | exact hle.elim | skip
              obtain ⟨hr, rfl⟩ := hle
              obtain ⟨g1, g2, g3, g4, g5⟩ := hp.gb _ _ hr
              refine ⟨hp.on _ _ hr, ?_⟩; rw [g1, g2, g3]; exact h.2
  | sb j lo m => cases c <;> first | exact hle.elim | skip
                 obtain ⟨hr, rfl, rfl⟩ := hle
                 obtain ⟨g1, g2, g3, g4, g5⟩ := hp.gb _ _ hr
                 refine ⟨hp.on _ _ hr, ?_⟩; rw [g1, g2, g3, g4]; exact h.2
  | inn j i k => cases c <;> first | exact hle.elim | skip
                 obtain ⟨hr, rfl, rfl⟩ := hle
                 obtain ⟨g1, g2, g3, g4, g5⟩ := hp.gb _ _ hr
                 refine ⟨hp.on _ _ hr, h.2.1, fun hpin => ?_⟩; rw [g1, g4]; exact h.2.2 (g5 _ _ hpin)
  | pt j off => cases c <;> first | exact hle.elim | skip
                obtain ⟨hr, rfl⟩ := hle
                obtain ⟨g1, g2, g3, g4, g5⟩ := hp.gb _ _ hr
                refine ⟨hp.on _ _ hr, ?_⟩; rw [g1]; exact h.2
  | rp j i off => cases c <;> first | exact hle.elim | skip
                  obtain ⟨hr, rfl, rfl⟩ := hle
                  obtain ⟨g1, g2, g3, g4, g5⟩ := hp.gb _ _ hr
                  refine ⟨hp.on _ _ hr, ?_⟩; rw [g1, g4]; exact h.2
  | tp cs off => cases c <;> first | exact hle.elim | skip
                 obtain ⟨rfl, rfl⟩ := hle
                 obtain ⟨b, o, h1, h2⟩ := h
                 exact ⟨b, o, h1, h2.move (fun k hk => hp.uo k hk) (fun _ _ => rfl)⟩
  | mp j => cases c <;> first | exact hle.elim | skip
            obtain ⟨g1, g2, g3, g4, g5⟩ := hp.gb _ _ hle
            refine ⟨hp.on _ _ hle, ?_⟩; rw [g1]; exact h.2
  | fn f qs => cases c <;> first | exact hle.elim | skip
               obtain ⟨rfl, hle⟩ := hle
               obtain ⟨i1, i2⟩ := hle.pass (fun j id h => ⟨hp.on j id h, (hp.gb j id h).1⟩)
               obtain ⟨_, h⟩ := h
               exact ⟨i1, by rw [h, i2]⟩
theorem CVles.pass (hp : Pass R G On G' On' w) : ∀ {xs ys : List CV} {vs : List Value}, All2 (Cr P G On w) xs vs → CVles R xs ys → All2 (Cr P G' On' w) ys vs := by
  intro xs ys vs h
  induction h generalizing ys with
  | nil => intro hle; cases ys with
    | nil => exact .nil
    | cons => exact hle.elim
  | cons h _ ih => intro hle; cases ys with
    | nil => exact hle.elim
    | cons => exact .cons (h.pass hp hle.1) (ih hle.2)
theorem PVles.pass (hp : Pass R G On G' On' w) : ∀ {xs ys : List (CV ⊕ List CV)} {vs : List Value}, All2 (Pr P G On w) xs vs → PVles R xs ys → All2 (Pr P G' On' w) ys vs := by
  intro xs ys vs h
  induction h generalizing ys with
  | nil => intro hle; cases ys with
    | nil => exact .nil
    | cons => exact hle.elim
  | cons h _ ih => intro hle; cases ys with
    | nil => exact hle.elim
    | cons y ys =>
      refine .cons ?_ (ih hle.2)
      rename_i x _ _ _ _
      cases x <;> cases y <;> first | exact hle.1.elim | skip
      · exact Cr.pass hp h hle.1
      · obtain ⟨vs, e, h⟩ := h
        exact ⟨vs, e, CVles.pass hp h hle.1⟩
theorem Vr.pass (hp : Pass R G On G' On' w) {x y : AV} {v : Value} (h : Vr P G On w x v) (hle : AVle R x y) : Vr P G' On' w y v := by
  cases y with
  | no => trivial
  | c y => cases x <;> first | exact hle.elim | exact Cr.pass hp h hle
  | ag ys => cases x <;> first | exact hle.elim | skip
             obtain ⟨vs, e, h⟩ := h
             exact ⟨vs, e, CVles.pass hp h hle⟩
  | tu ys => cases x <;> first | exact hle.elim | skip
             obtain ⟨vs, e, h⟩ := h
             exact ⟨vs, e, PVles.pass hp h hle⟩
theorem AVles.pass (hp : Pass R G On G' On' w) : ∀ {xs ys : List AV} {vs : List Value}, All2 (Vr P G On w) xs vs → AVles R xs ys → All2 (Vr P G' On' w) ys vs := by
  intro xs ys vs h
  induction h generalizing ys with
  | nil => intro hle; cases ys with
    | nil => exact .nil
    | cons => exact hle.elim
  | cons h _ ih => intro hle; cases ys with
    | nil => exact hle.elim
    | cons => exact .cons (h.pass hp hle.1) (ih hle.2)

def pnOf : Option AB → Bool
  | some (.row pn _ _) => pn
  | _ => false

theorem Rel.weaken (h : SRel P B w0 G σ a w) (hw : Wk B.n R σ σ') : ∃ G', SRel P B w0 G' σ' a w := by
  obtain ⟨hnd, hn, htk, hsl, hhp⟩ := hw
  obtain ⟨hlen, hlt, hget'⟩ := hhp.get
  let G' : Gh := fun j => match R[j]? with
    | none => ⟨0, false, 0, 0, fun _ => False, fun _ _ => False⟩
    | some id => { G id with S := fun k => hget σ'.hp j ≠ none ∧ (G id).S k, pin := fun i k => pnOf (hget σ'.hp j) = true ∧ (G id).pin i k }
  have gS : ∀ (j : Nat) id, R[j]? = some id → G' j = { G id with S := fun k => hget σ'.hp j ≠ none ∧ (G id).S k, pin := fun i k => pnOf (hget σ'.hp j) = true ∧ (G id).pin i k } := fun j id hj => by simp only [G', hj]
  have gN : ∀ (j : Nat), R[j]? = none → G' j = ⟨0, false, 0, 0, fun _ => False, fun _ _ => False⟩ := fun j hj => by simp only [G', hj]
  have hsub : ∀ (j : Nat) k, (G' j).S k → ∃ id, R[j]? = some id ∧ hget σ'.hp j ≠ none ∧ (G id).S k := by
    intro j k hS
    cases hj : R[j]? with
    | none => rw [gN j hj] at hS; exact hS.elim
    | some id => rw [gS j id hj] at hS; exact ⟨id, rfl, hS⟩
  have hpass : Pass R G (fun id => id < σ.hp.length) G' (fun id => id < σ'.hp.length) w := by
    refine ⟨fun j id hj => ?_, fun k hk => ⟨hk.1, fun j hS => ?_⟩, fun j id hj => ?_⟩
    · have := (List.getElem?_eq_some_iff.1 hj).1; omega
    · obtain ⟨id, _, _, hS⟩ := hsub j k hS; exact hk.2 id hS
    · rw [gS j id hj]; exact ⟨rfl, rfl, rfl, rfl, fun _ _ h => h.2⟩
  refine ⟨G', h.bel, h.base, AVles.pass hpass h.sl hsl, fun j blk hb => ?_, fun j k hS => ?_, fun j hj => ?_, fun j j' k h1 h2 => ?_, h.df, fun j hj => ?_⟩
  · obtain ⟨id, b, e1, e2, e3⟩ := hget' j blk hb
    obtain ⟨_, hbk⟩ := h.hp id b e2
    refine ⟨hpass.on j id e1, ?_⟩
    rw [gS j id e1, hb]
    cases b with
    | var t cs =>
      cases blk with
      | row => exact e3.elim
      | ob => exact e3.elim
      | var t' cs' =>
        obtain ⟨rfl, hcs⟩ := e3
        obtain ⟨h1, h2, arr, h3, h4⟩ := hbk
        exact ⟨⟨by simp, h1⟩, fun i k hh => by simp [pnOf] at hh, arr, h3, CVles.pass hpass h4 hcs⟩
    | row pn e ls =>
      cases blk with
      | var => exact e3.elim
      | ob => exact e3.elim
      | row pn' e' ls' =>
        obtain ⟨rfl, rfl, hpn⟩ := e3
        obtain ⟨h1, h2, h3⟩ := hbk
        refine ⟨h1, h2.mono fun k hk => ⟨by simp, hk⟩, fun i k => ?_⟩
        simp only [pnOf, h3]
        constructor
        · rintro ⟨a1, _, a2⟩; exact ⟨a1, a2⟩
        · rintro ⟨a1, a2⟩; exact ⟨a1, hpn a1, a2⟩
    | ob o =>
      cases blk with
      | var => exact e3.elim
      | row => exact e3.elim
      | ob o' =>
        obtain rfl := e3
        obtain ⟨h1, h2, h3⟩ := hbk
        exact ⟨⟨by simp, h1⟩, fun i k hh => by simp [pnOf] at hh, h3⟩
  · obtain ⟨id, _, _, hS⟩ := hsub j k hS; exact h.own id k hS
  · cases hr : R[j]? with
    | none => rw [gN j hr]; exact ⟨fun _ h => h, fun _ _ h => h⟩
    | some id => rw [gS j id hr]; exact ⟨fun _ hh => hh.1 hj, fun i k hh => by have := hh.1; rw [hj] at this; cases this⟩
  · obtain ⟨id, e1, _, hS1⟩ := hsub j k h1
    obtain ⟨id', e2, _, hS2⟩ := hsub j' k h2
    obtain rfl := h.dis id id' k hS1 hS2
    have l1 := (List.getElem?_eq_some_iff.1 e1).1
    exact (List.getElem?_inj l1 hnd).1 (e1.trans e2.symm)
  · have hj' : R[j]? = some j := by
      have h1 : (R.take B.n)[j]? = some j := by rw [htk]; simp [hj]
      rwa [List.getElem?_take_of_lt hj] at h1
    rw [gS j j hj']
    exact ⟨hpass.on j j hj', (h.an j hj).2⟩
end
end Go.Proofs.Ytekdfddodabfcaa
/- The engine, part Y: code, described: what follows from a described state. -/
namespace Go.Proofs.Ytekdfddodabfcaa
open Go.RowKit
set_option linter.unusedVariables false
set_option linter.unusedSimpArgs false

/-- From every state that σ describes, the code comes to an end that Q tells of. n: how many of the blocks are the caller's. -/
def AW (P : Program) (n : Nat) (c : Code) (σ : St) (Q : Exit → St → Prop) : Prop :=
  ∀ (B : Fr) (w0 : World) (G : Gh) (a : Act) (w : World), B.n = n → SRel P B w0 G σ a w → c.wp P (fun e a w => ∃ G σ', Q e σ' ∧ SRel P B w0 G σ' a w) a w

def thenA (K : St → Prop) (Q : Exit → St → Prop) : Exit → St → Prop
  | .normal, σ => K σ
  | e, σ => Q e σ
def blockA (id : Nat) (Q : Exit → St → Prop) : Exit → St → Prop
  | .exit i, σ => if i = id then Q .normal σ else Q (.exit i) σ
  | e, σ => Q e σ
def scopeA (Q : Exit → St → Prop) : Exit → St → Prop
  | .goto _, _ => False
  | e, σ => Q e σ

section
variable {P : Program} {n : Nat} {x y c : Code} {σ : St} {Q Q' : Exit → St → Prop}

theorem AW.mono (h : AW P n c σ Q) (hq : ∀ e σ, Q e σ → Q' e σ) : AW P n c σ Q' := fun B w0 G a w hn hr =>
  wp_mono (h B w0 G a w hn hr) fun e a w ⟨G, σ', hQ, hr⟩ => ⟨G, σ', hq _ _ hQ, hr⟩
theorem AW.weaken {R : List Nat} {σ' : St} (hw : Wk n R σ σ') (h : AW P n c σ' Q) : AW P n c σ Q := fun B w0 G a w hn hr => by
  obtain ⟨G', hr'⟩ := hr.weaken (hn ▸ hw)
  exact h B w0 G' a w hn hr'
theorem AW.skip (h : Q .normal σ) : AW P n .skip σ Q := fun B w0 G a w _ hr => wp_skip ⟨G, σ, h, hr⟩
theorem AW.exit {id : Nat} (h : Q (.exit id) σ) : AW P n (.exit id) σ Q := fun B w0 G a w _ hr => wp_exit ⟨G, σ, h, hr⟩
theorem AW.ret (h : Q .ret σ) : AW P n .ret σ Q := fun B w0 G a w _ hr => wp_ret ⟨G, σ, h, hr⟩
theorem AW.label {l : Nat} (h : Q .normal σ) : AW P n (.label l) σ Q := fun B w0 G a w _ hr => wp_label ⟨G, σ, h, hr⟩
theorem AW.seq (h : AW P n x σ (thenA (fun σ' => AW P n y σ' Q) Q)) : AW P n (.seq x y) σ Q := fun B w0 G a w hn hr =>
  wp_seq (wp_mono (h B w0 G a w hn hr) fun e a w ⟨G, σ', hQ, hr⟩ => by
    cases e with
    | normal => exact hQ B w0 G a w hn hr
    | _ => exact ⟨G, σ', hQ, hr⟩)
theorem AW.block {id : Nat} (h : AW P n c σ (blockA id Q)) : AW P n (.block id c) σ Q := fun B w0 G a w hn hr =>
  wp_block (wp_mono (h B w0 G a w hn hr) fun e a w ⟨G, σ', hQ, hr⟩ => by
    cases e with
    | exit i =>
      simp only [blockA, Exit.inBlock] at hQ ⊢
      split <;> rename_i hi
      · rw [if_pos hi] at hQ; exact ⟨G, σ', hQ, hr⟩
      · rw [if_neg hi] at hQ; exact ⟨G, σ', hQ, hr⟩
    | _ => exact ⟨G, σ', hQ, hr⟩)
theorem AW.scope (h : AW P n c σ (scopeA Q)) : AW P n (.scope c) σ Q := fun B w0 G a w hn hr =>
  wp_scope_straight (wp_mono (h B w0 G a w hn hr) fun e a w ⟨G, σ', hQ, hr⟩ => by
    cases e with
    | goto l => exact hQ.elim
    | _ => exact ⟨G, σ', hQ, hr⟩)
theorem AW.cond {o : Operand} {t : Bool} (hc : ev σ.sl o = .c (.v (.bool t))) (h1 : t = true → AW P n x σ Q) (h2 : t = false → AW P n y σ Q) : AW P n (.cond o x y) σ Q := fun B w0 G a w hn hr => by
  have he : a.eval o = .bool t := by have := ev_sound (sl := σ.sl) (hp := σ.hp) hr o; rw [hc] at this; exact vr_v this
  exact wp_cond_split he (fun ht => h1 ht B w0 G a w hn hr) (fun ht => h2 ht B w0 G a w hn hr)
theorem AW.region {id : Nat} {ops : Array Oper} (h : AOps P ops ops.toList σ.sl σ.hp fun sl hp => Q .normal ⟨sl, hp⟩) : AW P n (.region id ops false) σ Q := fun B w0 G a w hn hr =>
  wp_region_list (aops_sound (fun G sl hp a w hK hr => ⟨G, ⟨sl, hp⟩, hK, hr⟩) _ _ _ G a w hr h)
theorem AW.draw {id : Nat} {ops : Array Oper} (hm : P.follows .mixedOrders = true) (h : ADraw P ops σ.hp.length (fun sl hp acc => okDraw ops σ.hp.length acc = true ∧ Q .normal ⟨sl, hp⟩) 0 ops.toList σ.sl σ.hp []) : AW P n (.region id ops true) σ Q := fun B w0 G a w hn hr =>
  wp_region_draws (sl := σ.sl) (hp := σ.hp) hm hr h fun G sl' hp' a w hK hr => ⟨G, ⟨sl', hp'⟩, hK, hr⟩
/-- A loop: I tells its states, and how many rounds are left at most. -/
theorem AW.loop (I : Nat → St → Prop) (m : Nat) (h0 : I m σ) (h : ∀ m σ, I m σ → AW P n c σ (thenA (fun σ' => ∃ k, k < m ∧ I k σ') Q)) : AW P n (.loop c) σ Q := fun B w0 G a w hn hr => by
  refine Go.wp_loop_ghost (fun m a w => ∃ G σ, I m σ ∧ SRel P B w0 G σ a w) m ⟨G, σ, h0, hr⟩ fun m a w ⟨G, σ, hI, hr⟩ => ?_
  refine wp_mono (h m σ hI B w0 G a w hn hr) fun e a w ⟨G, σ', hQ, hr⟩ => ?_
  cases e with
  | normal => obtain ⟨k, hk, hI⟩ := hQ; exact ⟨k, hk, G, σ', hI, hr⟩
  | _ => exact ⟨G, σ', hQ, hr⟩
end
end Go.Proofs.Ytekdfddodabfcaa
/- The engine, part Z: what a call is lent and handed, and what comes back. -/
namespace Go.Proofs.Ytekdfddodabfcaa
open Go.RowKit
set_option linter.unusedVariables false
set_option linter.unusedSimpArgs false

/-- The caller's reading c, the callee's reading d. H: the blocks handed over (the callee's 0, 1, ..); T: the blocks that are looked at. -/
def LendC (T : List (Nat × AB)) (H : List Nat) : CV → CV → Prop
  | _, .no => True
  | .v x, .ro _ ls => x = .slice none 0 0 ∧ ls = []
  | .v x, .v y => x = y
  | .ro e ls, .ro e' ls' => e = e' ∧ ls = ls'
  | .sl id n, .ro e ls => id ∉ H ∧ n = ls.length ∧ ∃ pn, (id, .row pn e ls) ∈ T
  | .sb id lo n, .ro e ls => id ∉ H ∧ (0 < n ∨ lo = 0) ∧ ∃ pn ls', (id, .row pn e ls') ∈ T ∧ lo + n ≤ ls'.length ∧ ls = (ls'.drop lo).take n
  | .inn id i k, .ro e ls => id ∉ H ∧ ∃ e0 ls' cs, (id, .row true e0 ls') ∈ T ∧ ls'[i]? = some cs ∧ cs[k]? = some (.l e ls)
  | .sl id n, .sl j m => H[j]? = some id ∧ n = m
  | .sb id lo n, .sb j lo' m => H[j]? = some id ∧ lo = lo' ∧ n = m
  | .pt id off, .pt j off' => H[j]? = some id ∧ off = off'
  | .rp id i off, .rp j i' off' => H[j]? = some id ∧ i = i' ∧ off = off'
  | .tp cs off, .tp cs' off' => cs = cs' ∧ off = off'
  | .mp id, .mp j => H[j]? = some id
  | .fn f ps, .fn f' ps' => f = f' ∧ FPle H ps ps'
  | .rp id i off, .tp cs off' => id ∉ H ∧ off = off' ∧ ∃ pn e ls, (id, .row pn e ls) ∈ T ∧ ls[i]? = some cs
  | _, _ => False
def LendCs (T : List (Nat × AB)) (H : List Nat) : List CV → List CV → Prop
  | [], [] => True
  | c :: l, d :: m => LendC T H c d ∧ LendCs T H l m
  | _, _ => False
def LendA (T : List (Nat × AB)) (H : List Nat) : AV → AV → Prop
  | _, .no => True
  | .c x, .c y => LendC T H x y
  | .ag xs, .ag ys => LendCs T H xs ys
  | _, _ => False
def LendAs (T : List (Nat × AB)) (H : List Nat) : List AV → List AV → Prop
  | [], [] => True
  | c :: l, d :: m => LendA T H c d ∧ LendAs T H l m
  | _, _ => False
def LendB (T : List (Nat × AB)) (H : List Nat) : AB → AB → Prop
  | .var t cs, .var t' cs' => t = t' ∧ LendCs T H cs cs'
  | .row pn e ls, .row pn' e' ls' => e = e' ∧ ls = ls' ∧ (pn' = true → pn = true)
  | .ob o, .ob o' => o = o'
  | _, _ => False
/-- The blocks handed over, one by one. -/
def LendBs (T : List (Nat × AB)) (H : List Nat) : List Nat → Hp → Prop
  | [], [] => True
  | id :: l, x :: m => (∃ b b', x = some b' ∧ (id, b) ∈ T ∧ LendB T H b b') ∧ LendBs T H l m
  | _, _ => False

section
variable {P : Program} {G G' : Gh} {On On' : Nat → Prop} {w w' : World} {B : Fr} {w0 : World} {σ σ' : St} {a : Act} {T : List (Nat × AB)} {H : List Nat} {sl : List AV} {hp hp0 : Hp}

theorem LendBs.get : ∀ {l : List Nat} {m : Hp}, LendBs T H l m → l.length = m.length ∧ ∀ (j : Nat) id, l[j]? = some id → ∃ b b', hget m j = some b' ∧ (id, b) ∈ T ∧ LendB T H b b' := by
  intro l
  induction l with
  | nil =>
    intro m h
    cases m with
    | nil => exact ⟨rfl, fun j id h => by simp at h⟩
    | cons x m => exact h.elim
  | cons id l ih =>
    intro m h
    cases m with
    | nil => exact h.elim
    | cons x m =>
      obtain ⟨⟨b, b', rfl, h1, h2⟩, h3⟩ := h
      obtain ⟨i1, i2⟩ := ih h3
      refine ⟨by simp [i1], fun j id' hj => ?_⟩
      cases j with
      | zero =>
        simp only [List.getElem?_cons_zero, Option.some.injEq] at hj
        subst hj
        exact ⟨b, b', rfl, h1, h2⟩
      | succ j =>
        obtain ⟨b, b', e1, e2, e3⟩ := i2 j id' (by simpa using hj)
        exact ⟨b, b', by simpa [hget] using e1, e2, e3⟩

/-- The callee's ghosts. -/
def lendG (G : Gh) (H : List Nat) (hp0 : Hp) : Gh := fun j => match H[j]? with
  | none => ⟨0, false, 0, 0, fun _ => False, fun _ _ => False⟩
  | some id => { G id with pin := fun i k => pnOf (hget hp0 j) = true ∧ (G id).pin i k }
/-- What the callee leaves alone. -/
def lendF (G : Gh) (H : List Nat) (w : World) : Nat → Prop := fun k => k < w.heap.size ∧ ∀ id ∈ H, ¬ (G id).S k

theorem lendG_some {j id : Nat} (h : H[j]? = some id) : lendG G H hp0 j = { G id with pin := fun i k => pnOf (hget hp0 j) = true ∧ (G id).pin i k } := by simp only [lendG, h]
theorem lendG_S {j k : Nat} (h : (lendG G H hp0 j).S k) : ∃ id, H[j]? = some id ∧ (G id).S k := by
  cases hj : H[j]? with
  | none => simp only [lendG, hj] at h
  | some id => rw [lendG_some hj] at h; exact ⟨id, rfl, h⟩

theorem lend_uo (k : Nat) (h : Uo G w k) : Uo (lendG G H hp0) w k := ⟨h.1, fun j hS => by obtain ⟨id, _, h'⟩ := lendG_S hS; exact h.2 id h'⟩
theorem lend_uo' (h : Rel P B w0 G On ⟨sl, hp⟩ a w) {id : Nat} (hn : id ∉ H) (k : Nat) (hk : (G id).S k) : Uo (lendG G H hp0) w k :=
  ⟨(h.own id k hk).2, fun j hS => by
    obtain ⟨id', e, h'⟩ := lendG_S hS
    exact hn (h.dis id id' k hk h' ▸ List.mem_of_getElem? e)⟩

theorem lend_c (h : Rel P B w0 G On ⟨sl, hp⟩ a w) (hT : ∀ x ∈ T, hget hp x.1 = some x.2) {c d : CV} {y : Value} (hc : Cr P G On w c y) (hl : LendC T H c d) :
    Cr P (lendG G H hp0) (fun j => j < H.length) w d y := by
  have hon : ∀ (j : Nat) id, H[j]? = some id → j < H.length := fun j id e => (List.getElem?_eq_some_iff.1 e).1
  cases d with
  | no => exact hc.one
  | v x =>
    cases c <;> first | exact hl.elim | skip
    obtain rfl := hl; exact hc
  | ro e ls =>
    cases c <;> first | exact hl.elim | skip
    · obtain ⟨rfl, _⟩ := hc
      obtain ⟨rfl, rfl⟩ := hl
      exact K.nil
    · obtain ⟨rfl, rfl⟩ := hl
      exact K.move hc (fun k hk => lend_uo k hk) (fun _ _ => rfl)
    · rename_i id n
      obtain ⟨hn, rfl, pn, hm⟩ := hl
      obtain ⟨_, rfl⟩ := hc
      obtain ⟨_, _, hm, _⟩ := h.hp id _ (hT _ hm)
      exact K.of_M hm fun k hk => lend_uo' h hn k hk
    · rename_i id lo n
      obtain ⟨hn, hpos, pn, ls', hm, hlo, rfl⟩ := hl
      obtain ⟨_, ad, cap, rfl, g1, g2, g3, g4, g5⟩ := hc
      obtain ⟨_, hsz, hm, _⟩ := h.hp id _ (hT _ hm)
      have hlen : ((ls'.drop lo).take n).length = n := by simp; omega
      obtain ⟨_, hcase⟩ := hm.inv
      have hg : ∀ (i : Nat) cs, ((ls'.drop lo).take n)[i]? = some cs → ls'[lo + i]? = some cs := fun i cs h => take_drop_get h
      rcases hcase with ⟨hnl, rfl, hcap⟩ | ⟨hnl, arr, vals, F, h1, h2, h3, h4, h5, h6, h7, h8, h9, h10⟩
      · have hn0 : n = 0 := by simp at hlo; omega
        have hlo0 : lo = 0 := by simp at hlo; omega
        subst hn0; subst hlo0
        have : ad = none := by rw [g3 rfl, hnl]; rfl
        subst this
        rw [g5 rfl]
        simp only [List.drop_zero, List.take_zero]
        exact K.nil
      · have hsome : ad = some ⟨(G id).b, lo * szT P e, none⟩ := by
          rcases hpos with hpos | rfl
          · rw [g4 hpos, hsz]
          · rw [g3 rfl, hnl]; simp [hd]
        rw [hsome]
        have := K.l (P := P) (w := w) (U := Uo (lendG G H hp0) w) (e := e) (ls := (ls'.drop lo).take n) (b := (G id).b) (o := lo * szT P e) (cap := cap) (arr := arr) (vals := fun i j => vals (lo + i) j)
          (lend_uo' h hn _ h1) h4 (by omega) (by omega) (fun i cs hi => h8 _ cs (hg i cs hi))
          (fun i cs j d hi hj => by have := h9 _ cs j d (hg i cs hi) hj; rw [← this, Nat.add_mul])
          (fun i cs j d hi hj => K.of_M (h10 _ cs j d (hg i cs hi) hj) fun k hk => lend_uo' h hn k (h2 _ _ _ hk).1)
        rwa [hlen] at this
    · rename_i id i k
      obtain ⟨hn, e0, ls', cs, hm, hi, hk⟩ := hl
      obtain ⟨_, _, hcell⟩ := hc
      have hbk := h.hp id _ (hT _ hm)
      obtain ⟨_, hsz, hmm, hpin⟩ := hbk
      have hcell := hcell ((hpin i k).2 ⟨rfl, cs, e, ls, hi, .inl hk⟩)
      obtain ⟨_, hcase⟩ := hmm.inv
      rcases hcase with ⟨hnl, rfl, hcap⟩ | ⟨hnl, arr, vals, F, h1, h2, h3, h4, h5, h6, h7, h8, h9, h10⟩
      · simp at hi
      · have h11 := h9 i cs k _ hi hk
        rw [cell_of_row w _ _ arr e0 (0, 0) h4, hsz, h11] at hcell
        obtain rfl := Option.some.inj hcell
        exact K.of_M (h10 i cs k _ hi hk) fun q hq => lend_uo' h hn q (h2 _ _ _ hq).1
  | sl j m =>
    cases c <;> first | exact hl.elim | skip
    obtain ⟨hr, rfl⟩ := hl
    refine ⟨hon _ _ hr, ?_⟩; rw [lendG_some hr]; exact hc.2
  | sb j lo m =>
    cases c <;> first | exact hl.elim | skip
    obtain ⟨hr, rfl, rfl⟩ := hl
    refine ⟨hon _ _ hr, ?_⟩; rw [lendG_some hr]; exact hc.2
  | inn j i k => cases c <;> exact hl.elim
  | pt j off =>
    cases c <;> first | exact hl.elim | skip
    obtain ⟨hr, rfl⟩ := hl
    refine ⟨hon _ _ hr, ?_⟩; rw [lendG_some hr]; exact hc.2
  | rp j i off =>
    cases c <;> first | exact hl.elim | skip
    obtain ⟨hr, rfl, rfl⟩ := hl
    refine ⟨hon _ _ hr, ?_⟩; rw [lendG_some hr]; exact hc.2
  | tp cs off =>
    cases c <;> first | exact hl.elim | skip
    · rename_i id i off'
      obtain ⟨hn, rfl, pn, e, ls, hm, hi⟩ := hl
      obtain ⟨_, rfl⟩ := hc
      obtain ⟨_, hsz, hmm, _⟩ := h.hp id _ (hT _ hm)
      obtain ⟨_, hcase⟩ := hmm.inv
      rcases hcase with ⟨hnl, rfl, hcap⟩ | ⟨hnl, arr, vals, F, h1, h2, h3, h4, h5, h6, h7, h8, h9, h10⟩
      · simp at hi
      · refine ⟨(G id).b, i * (G id).sz, rfl, lend_uo' h hn _ h1, arr, _, _, h4, fun j d hd => ⟨vals i j, ?_, K.of_M (h10 i cs j d hi hd) fun k hk => lend_uo' h hn k (h2 _ _ _ hk).1⟩⟩
        rw [hsz]; exact h9 i cs j d hi hd
    · obtain ⟨rfl, rfl⟩ := hl
      obtain ⟨b, o, h1, h2⟩ := hc
      exact ⟨b, o, h1, h2.move (fun k hk => lend_uo k hk) (fun _ _ => rfl)⟩
  | mp j =>
    cases c <;> first | exact hl.elim | skip
    refine ⟨hon _ _ hl, ?_⟩; rw [lendG_some hl]; exact hc.2
  | fn f qs =>
    cases c <;> first | exact hl.elim | skip
    obtain ⟨rfl, hl⟩ := hl
    obtain ⟨i1, i2⟩ := hl.pass (G := G) (G' := lendG G H hp0) (On' := fun j => j < H.length) (fun j id e => ⟨hon _ _ e, by rw [lendG_some e]⟩)
    obtain ⟨_, hc⟩ := hc
    exact ⟨i1, by rw [hc, i2]⟩
end
end Go.Proofs.Ytekdfddodabfcaa
/- The engine, part Za: a function's contract, and what a call of it does. -/
namespace Go.Proofs.Ytekdfddodabfcaa
open Go.RowKit
set_option linter.unusedVariables false
set_option linter.unusedSimpArgs false

/-- A function's contract: handed the blocks hp0 and the arguments xs, it comes back with v, and the blocks are hp1. -/
def FunSem (P : Program) (f : Nat) (hp0 : Hp) (xs : List AV) (hp1 : Hp) (v : AV) : Prop :=
  (∃ fn, P.funcs[f]? = some fn ∧ fn.body.isSome = true ∧ (fn.name == "runtime.NumGoroutine") = false) ∧
  ∀ (B : Fr) (w0 : World) (G : Gh) (a : Act) (w : World), B.n = hp0.length → SRel P B w0 G ⟨[], hp0⟩ a w → ∀ vs : List Value, All2 (Vr P G (fun id => id < hp0.length) w) xs vs →
    Calls P f vs.toArray w fun e w' => ∃ y G', e = .returned y ∧ SRel P B w0 G' ⟨[], hp1⟩ a w' ∧ Vr P G' (fun id => id < hp1.length) w' v y

def renC (U : List Nat) : CV → CV
  | .v x => .v x
  | .sl j n => .sl (U.getD j 0) n
  | .sb j lo n => .sb (U.getD j 0) lo n
  | .inn j i k => .inn (U.getD j 0) i k
  | .pt j off => .pt (U.getD j 0) off
  | .rp j i off => .rp (U.getD j 0) i off
  | .mp j => .mp (U.getD j 0)
  | .fn f ps => .fn f (ps.map fun p => (U.getD p.1 0, p.2))
  | _ => .no
def renP (U : List Nat) : CV ⊕ List CV → CV ⊕ List CV
  | .inl c => .inl (renC U c)
  | .inr cs => .inr (cs.map (renC U))
def renA (U : List Nat) : AV → AV
  | .c x => .c (renC U x)
  | .ag xs => .ag (xs.map (renC U))
  | .tu xs => .tu (xs.map (renP U))
  | .no => .no
def renB (U : List Nat) (h j : Nat) : Option AB → Option AB
  | some (.var t cs) => some (.var t (cs.map (renC U)))
  | some (.row pn e ls) => some (.row (pn && decide (h ≤ j)) e ls)
  | some (.ob o) => some (.ob o)
  | none => none
def backE (U : List Nat) (h : Nat) : Nat → List Nat → Hp → List (Nat × Option AB)
  | j, u :: us, b :: bs => (u, renB U h j b) :: backE U h (j + 1) us bs
  | _, _, _ => []

section
variable {P : Program} {G G' : Gh} {On On' : Nat → Prop} {w w' : World} {B : Fr} {w0 : World} {σ σ' : St} {a : Act} {T : List (Nat × AB)} {H : List Nat} {sl : List AV} {hp hp0 hp1 : Hp}

theorem lend_cs (h : Rel P B w0 G On ⟨sl, hp⟩ a w) (hT : ∀ x ∈ T, hget hp x.1 = some x.2) : ∀ {cs ds : List CV} {ys : List Value}, All2 (Cr P G On w) cs ys → LendCs T H cs ds → All2 (Cr P (lendG G H hp0) (fun j => j < H.length) w) ds ys := by
  intro cs ds ys hc
  induction hc generalizing ds with
  | nil => intro hl; cases ds with
    | nil => exact .nil
    | cons => exact hl.elim
  | cons h0 _ ih => intro hl; cases ds with
    | nil => exact hl.elim
    | cons => exact .cons (lend_c h hT h0 hl.1) (ih hl.2)
theorem lend_a (h : Rel P B w0 G On ⟨sl, hp⟩ a w) (hT : ∀ x ∈ T, hget hp x.1 = some x.2) {c d : AV} {y : Value} (hc : Vr P G On w c y) (hl : LendA T H c d) : Vr P (lendG G H hp0) (fun j => j < H.length) w d y := by
  cases d with
  | no => trivial
  | c y => cases c <;> first | exact hl.elim | exact lend_c h hT hc hl
  | ag ys => cases c <;> first | exact hl.elim | skip
             obtain ⟨vs, e, hc⟩ := hc
             exact ⟨vs, e, lend_cs h hT hc hl⟩
  | tu ys => cases c <;> exact hl.elim
theorem lend_as (h : Rel P B w0 G On ⟨sl, hp⟩ a w) (hT : ∀ x ∈ T, hget hp x.1 = some x.2) : ∀ {cs ds : List AV} {ys : List Value}, All2 (Vr P G On w) cs ys → LendAs T H cs ds → All2 (Vr P (lendG G H hp0) (fun j => j < H.length) w) ds ys := by
  intro cs ds ys hc
  induction hc generalizing ds with
  | nil => intro hl; cases ds with
    | nil => exact .nil
    | cons => exact hl.elim
  | cons h0 _ ih => intro hl; cases ds with
    | nil => exact hl.elim
    | cons => exact .cons (lend_a h hT h0 hl.1) (ih hl.2)

/-- The callee's state as it begins. -/
theorem lend_rel (h : Rel P B w0 G On ⟨sl, hp⟩ a w) (hT : ∀ x ∈ T, hget hp x.1 = some x.2) (hH : H.Nodup) (hb : LendBs T H H hp0) :
    SRel P ⟨lendF G H w, H.length, lendG G H hp0⟩ w (lendG G H hp0) ⟨[], hp0⟩ { tmps := #[], defers := [] } w := by
  obtain ⟨hlen, hget'⟩ := hb.get
  have hsome : ∀ (j : Nat) blk, hget hp0 j = some blk → ∃ id, H[j]? = some id := by
    intro j blk hj
    have : j < hp0.length := by
      rcases Nat.lt_or_ge j hp0.length with h | h
      · exact h
      · simp [hget, List.getElem?_eq_none h] at hj
    exact ⟨H[j]'(by omega), List.getElem?_eq_getElem (by omega)⟩
  refine ⟨Kept.refl _ _, fun k hk => hk.1, .nil, fun j blk hj => ?_, fun j k hS => ?_, fun j hj => ?_, fun j j' k h1 h2 => ?_, rfl, fun j hj => ⟨by show j < hp0.length; rw [← hlen]; exact hj, rfl, rfl, rfl, rfl⟩⟩
  · obtain ⟨id, hid⟩ := hsome j blk hj
    obtain ⟨b, b', e1, e2, e3⟩ := hget' j id hid
    rw [hj] at e1; obtain rfl := Option.some.inj e1
    obtain ⟨_, hbk⟩ := h.hp id b (hT _ e2)
    have hjl := (List.getElem?_eq_some_iff.1 hid).1
    refine ⟨by show j < hp0.length; omega, ?_⟩
    rw [lendG_some hid, hj, ← hlen]
    cases b with
    | var t cs =>
      cases blk with
      | row => exact e3.elim
      | ob => exact e3.elim
      | var t' cs' =>
        obtain ⟨rfl, hcs⟩ := e3
        obtain ⟨h1, h2, arr, h3, h4⟩ := hbk
        exact ⟨h1, fun i k hh => by simp [pnOf] at hh, arr, h3, lend_cs h hT h4 hcs⟩
    | row pn e ls =>
      cases blk with
      | var => exact e3.elim
      | ob => exact e3.elim
      | row pn' e' ls' =>
        obtain ⟨rfl, rfl, hpn⟩ := e3
        obtain ⟨h1, h2, h3⟩ := hbk
        refine ⟨h1, h2, fun i k => ?_⟩
        simp only [pnOf, h3]
        constructor
        · rintro ⟨a1, _, a2⟩; exact ⟨a1, a2⟩
        · rintro ⟨a1, a2⟩; exact ⟨a1, hpn a1, a2⟩
    | ob o =>
      cases blk with
      | var => exact e3.elim
      | row => exact e3.elim
      | ob o' =>
        obtain rfl := e3
        obtain ⟨h1, h2, h3⟩ := hbk
        exact ⟨h1, fun i k hh => by simp [pnOf] at hh, h3⟩
  · obtain ⟨id, e, hS'⟩ := lendG_S hS
    exact ⟨fun hF => hF.2 id (List.mem_of_getElem? e) hS', (h.own id k hS').2⟩
  · cases hr : H[j]? with
    | none => simp only [lendG, hr]; exact ⟨fun _ h => h, fun _ _ h => h⟩
    | some id =>
      obtain ⟨b, b', e1, _⟩ := hget' j id hr
      rw [hj] at e1; cases e1
  · obtain ⟨id, e1, hS1⟩ := lendG_S h1
    obtain ⟨id', e2, hS2⟩ := lendG_S h2
    obtain rfl := h.dis id id' k hS1 hS2
    exact (List.getElem?_inj (List.getElem?_eq_some_iff.1 e1).1 hH).1 (e1.trans e2.symm)

/-- The caller's ghosts behind the call. -/
def backG (G G' : Gh) (U : List Nat) (h : Nat) : Gh := fun id => match U.idxOf? id with
  | some j => { G' j with pin := fun i k => h ≤ j ∧ (G' j).pin i k }
  | none => G id
theorem idxOf?_get {U : List Nat} (hU : U.Nodup) {j id : Nat} : U.idxOf? id = some j ↔ U[j]? = some id := by
  rw [List.idxOf?_eq_some_iff]
  constructor
  · rintro ⟨h1, h2, _⟩; rw [List.getElem?_eq_getElem h1]; simpa using h2
  · intro h
    obtain ⟨h1, h2⟩ := List.getElem?_eq_some_iff.1 h
    refine ⟨h1, by simpa using h2, fun i hi => ?_⟩
    have : i < U.length := by omega
    intro he
    have := (List.getElem?_inj this hU).1 ((List.getElem?_eq_getElem this).trans (by rw [he, h]))
    omega
theorem backG_some {U : List Nat} (hU : U.Nodup) {h j id : Nat} (e : U[j]? = some id) : backG G G' U h id = { G' j with pin := fun i k => h ≤ j ∧ (G' j).pin i k } := by
  simp only [backG, (idxOf?_get hU).2 e]
theorem backG_none {U : List Nat} {h id : Nat} (e : id ∉ U) : backG G G' U h id = G id := by
  have : U.idxOf? id = none := by rw [List.idxOf?_eq_none_iff]; exact e
  simp only [backG, this]

theorem back_c {U : List Nat} {h : Nat} (hU : U.Nodup) (hOn : ∀ (j : Nat) id, U[j]? = some id → On' id) {n : Nat} (hn : U.length = n) {c : CV} {y : Value} (hc : Cr P G' (fun j => j < n) w c y) :
    Cr P (backG G G' U h) On' w (renC U c) y := by
  have hg : ∀ j, j < n → U[j]? = some (U.getD j 0) := fun j hj => by
    rw [List.getD_eq_getElem?_getD, List.getElem?_eq_getElem (by omega)]; rfl
  cases c with
  | v x => exact hc
  | ro e ls => exact hc.one
  | sl j n => obtain ⟨ho, e⟩ := hc; refine ⟨hOn _ _ (hg j ho), ?_⟩; rw [backG_some hU (hg j ho)]; exact e
  | sb j lo n => obtain ⟨ho, e⟩ := hc; refine ⟨hOn _ _ (hg j ho), ?_⟩; rw [backG_some hU (hg j ho)]; exact e
  | inn j i k => obtain ⟨ho, e1, e2⟩ := hc; refine ⟨hOn _ _ (hg j ho), e1, ?_⟩; rw [backG_some hU (hg j ho)]; exact fun hp => e2 hp.2
  | pt j off => obtain ⟨ho, e⟩ := hc; refine ⟨hOn _ _ (hg j ho), ?_⟩; rw [backG_some hU (hg j ho)]; exact e
  | rp j i off => obtain ⟨ho, e⟩ := hc; refine ⟨hOn _ _ (hg j ho), ?_⟩; rw [backG_some hU (hg j ho)]; exact e
  | tp cs off => exact hc.one
  | mp j => obtain ⟨ho, e⟩ := hc; refine ⟨hOn _ _ (hg j ho), ?_⟩; rw [backG_some hU (hg j ho)]; exact e
  | fn f ps =>
    obtain ⟨ho, e⟩ := hc
    refine ⟨fun p hp => ?_, ?_⟩
    · obtain ⟨q, hq, rfl⟩ := List.mem_map.1 hp
      exact hOn _ _ (hg q.1 (ho q hq))
    · rw [e, List.map_map]
      have : (ps.map fun p => Value.pointer (some ⟨(G' p.1).b, p.2, none⟩)) = ps.map ((fun p => Value.pointer (some ⟨(backG G G' U h p.1).b, p.2, none⟩)) ∘ fun p => (U.getD p.1 0, p.2)) :=
        List.map_congr_left fun p hp => by simp only [Function.comp]; rw [backG_some hU (hg p.1 (ho p hp))]
      rw [this]
  | no => exact hc
theorem all2_map {α β γ : Type} {R : α → β → Prop} {R' : γ → β → Prop} {f : α → γ} {l : List α} {m : List β} (h : All2 R l m) (hf : ∀ x y, R x y → R' (f x) y) : All2 R' (l.map f) m := by
  induction h with
  | nil => exact .nil
  | cons h0 _ ih => exact .cons (hf _ _ h0) ih
theorem back_a {U : List Nat} {h : Nat} (hU : U.Nodup) (hOn : ∀ (j : Nat) id, U[j]? = some id → On' id) {n : Nat} (hn : U.length = n) {c : AV} {y : Value} (hc : Vr P G' (fun j => j < n) w c y) :
    Vr P (backG G G' U h) On' w (renA U c) y := by
  cases c with
  | no => trivial
  | c x => exact back_c hU hOn hn hc
  | ag xs => obtain ⟨vs, e, hc⟩ := hc; exact ⟨vs, e, all2_map hc fun _ _ h => back_c hU hOn hn h⟩
  | tu xs =>
    obtain ⟨vs, e, hc⟩ := hc
    refine ⟨vs, e, all2_map hc fun x y h => ?_⟩
    cases x with
    | inl c => exact back_c hU hOn hn h
    | inr cs => obtain ⟨vs, e, h⟩ := h; exact ⟨vs, e, all2_map h fun _ _ h => back_c hU hOn hn h⟩

theorem backE_keys {U : List Nat} {h : Nat} : ∀ (us : List Nat) (bs : Hp) (j : Nat), us.length = bs.length → (backE U h j us bs).map Prod.fst = us := by
  intro us
  induction us with
  | nil => intro bs j hl; cases bs with
    | nil => rfl
    | cons => simp at hl
  | cons u us ih => intro bs j hl; cases bs with
    | nil => simp at hl
    | cons b bs => simp only [backE, List.map_cons]; rw [ih bs _ (by simpa using hl)]
theorem backE_get {U : List Nat} {h : Nat} : ∀ (us : List Nat) (bs : Hp) (j : Nat) (hp : Hp), us.length = bs.length → us.Nodup → ∀ (i id : Nat), us[i]? = some id → hget (happly hp (backE U h j us bs)) id = renB U h (j + i) (hget bs i) := by
  intro us
  induction us with
  | nil => intro bs j hp _ _ i id h; simp at h
  | cons u us ih =>
    intro bs j hp hl hnd i id hi
    cases bs with
    | nil => simp at hl
    | cons b bs =>
      have hnd' := List.nodup_cons.1 hnd
      simp only [backE, happly_cons]
      cases i with
      | zero =>
        simp only [List.getElem?_cons_zero, Option.some.injEq] at hi
        subst hi
        rw [happly_other (by rw [backE_keys _ _ _ (by simpa using hl)]; exact hnd'.1), hget_hput_same]
        simp [hget]
      | succ i =>
        rw [ih bs (j + 1) _ (by simpa using hl) hnd'.2 i id (by simpa using hi)]
        rw [show j + 1 + i = j + (i + 1) by omega]
        simp [hget]

/-- A call of a function that has a contract. -/
theorem FunSem.call {f : Nat} {xs ys : List AV} {v : AV} {nid : Nat} {U : List Nat} (hf : FunSem P f hp0 ys hp1 v) (hH : H.Nodup) (hb : LendBs T H H hp0) (hl : LendAs T H xs ys)
    (hUH : U.take H.length = H) (hUn : U.drop H.length = (List.range (hp1.length - H.length)).map (nid + ·)) (hUl : U.length = hp1.length) (h8 : hp1.length ≤ H.length + 8) :
    CallSem P f xs T nid (renA U v) (backE U H.length 0 U hp1) := by
  obtain ⟨hfn, hf⟩ := hf
  refine ⟨hfn, fun sl hp On hT hn B w0 G a w hr vs hvs => ?_⟩
  obtain ⟨hbl, hbg⟩ := hb.get
  have hrel := lend_rel hr hT hH hb
  have hav := lend_as (hp0 := hp0) hr hT hvs hl
  rw [hbl] at hrel hav
  refine (hf _ _ _ _ _ rfl hrel vs hav).mono ?_
  rintro e w' ⟨y, G', rfl, hr', hv⟩
  rw [← hbl] at hr'
  -- the numbers that come back
  have hUget : ∀ (j : Nat) id, U[j]? = some id → (j < H.length ∧ H[j]? = some id) ∨ (H.length ≤ j ∧ id = nid + (j - H.length) ∧ j < hp1.length) := by
    intro j id hj
    by_cases hlt : j < H.length
    · left
      refine ⟨hlt, ?_⟩
      rw [← hUH, List.getElem?_take_of_lt hlt]; exact hj
    · right
      have hjl : j < hp1.length := by rw [← hUl]; exact (List.getElem?_eq_some_iff.1 hj).1
      have h1 : (U.drop H.length)[j - H.length]? = some id := by rw [List.getElem?_drop, show H.length + (j - H.length) = j by omega]; exact hj
      rw [hUn, List.getElem?_map, List.getElem?_range (by omega)] at h1
      simp only [Option.map_some, Option.some.injEq] at h1
      exact ⟨by omega, h1.symm, hjl⟩
  have hHon : ∀ id ∈ H, On id := by
    intro id hid
    obtain ⟨j, hj, rfl⟩ := List.mem_iff_getElem.1 hid
    obtain ⟨b, b', _, e2, _⟩ := hbg j H[j] (List.getElem?_eq_getElem hj)
    exact (hr.hp _ b (hT _ e2)).1
  have hnew : ∀ (j : Nat) id, U[j]? = some id → H.length ≤ j → ¬ On id := by
    intro j id hj hle
    rcases hUget j id hj with h | ⟨_, rfl, h⟩
    · omega
    · exact hn _ (by omega) (by omega)
  have hU : U.Nodup := by
    rw [List.Nodup, List.pairwise_iff_getElem]
    intro i j hi' hj hij he'
    have he : U[i]? = U[j]? := by rw [List.getElem?_eq_getElem hi', List.getElem?_eq_getElem hj, he']
    have e1 : U[i]? = some (U[i]'(by omega)) := List.getElem?_eq_getElem (by omega)
    have e2 : U[j]? = some (U[i]'(by omega)) := he ▸ e1
    rcases hUget i _ e1 with ⟨a1, a2⟩ | ⟨a1, a2, a3⟩ <;> rcases hUget j _ e2 with ⟨b1, b2⟩ | ⟨b1, b2, b3⟩
    · have := (List.getElem?_inj a1 hH).1 (a2.trans b2.symm); omega
    · exact hnew j _ e2 b1 (hHon _ (List.mem_of_getElem? a2))
    · omega
    · omega
  have hmem : ∀ id, id ∈ U → ∃ j, U[j]? = some id := fun id h => List.mem_iff_getElem?.1 h
  have hkeys : (backE U H.length 0 U hp1).map Prod.fst = U := backE_keys _ _ _ hUl
  have hgetE : ∀ (j id : Nat), U[j]? = some id → hget (happly hp (backE U H.length 0 U hp1)) id = renB U H.length j (hget hp1 j) := fun j id hj => by
    have := backE_get (U := U) (h := H.length) U hp1 0 hp hUl hU j id hj; rwa [Nat.zero_add] at this
  have hgetO : ∀ id, id ∉ U → hget (happly hp (backE U H.length 0 U hp1)) id = hget hp id := fun id h => happly_other (by rw [hkeys]; exact h) hp
  have hOnE : ∀ (j : Nat) id, U[j]? = some id → OnE On (backE U H.length 0 U hp1) id := fun j id hj => .inr (by rw [hkeys]; exact List.mem_of_getElem? hj)
  have hbel : Kept (lendF G H w) w w' := hr'.bel
  have hF : ∀ k, lendF G H w k → w'.heap[k]? = w.heap[k]? := hbel.block
  have hoF : ∀ id k, id ∉ H → (G id).S k → lendF G H w k := fun id k hid hS => ⟨(hr.own id k hS).2, fun id' hid' hS' => hid (hr.dis id id' k hS hS' ▸ hid')⟩
  have hnotH : ∀ id, id ∉ U → id ∉ H := fun id h hH' => h (by rw [← hUH] at hH'; exact List.mem_of_mem_take hH')
  have hanch : ∀ (j : Nat) id, H[j]? = some id → (G' j).b = (G id).b ∧ (G' j).nl = (G id).nl ∧ (G' j).cap = (G id).cap ∧ (G' j).sz = (G id).sz := by
    intro j id hj
    have hjl := (List.getElem?_eq_some_iff.1 hj).1
    obtain ⟨_, g1, g2, g3, g4⟩ := hr'.an j (by show j < H.length; exact hjl)
    simp only [lendG_some hj] at g1 g2 g3 g4
    exact ⟨g1, g2, g3, g4⟩
  have hstay : Stay G On w (backG G G' U H.length) (OnE On (backE U H.length 0 U hp1)) w' := by
    refine ⟨fun _ h => .inl h, fun k hk => ?_, fun id ho => ?_, fun id i k u ho hpin hc => ?_⟩
    · have hFk : lendF G H w k := ⟨hk.1, fun id _ => hk.2 id⟩
      refine ⟨⟨Nat.lt_of_lt_of_le hk.1 hbel.size, fun id hS => ?_⟩, hF k hFk⟩
      by_cases hid : id ∈ U
      · obtain ⟨j, hj⟩ := hmem id hid
        rw [backG_some hU hj] at hS
        exact (hr'.own j k hS).1 hFk
      · rw [backG_none hid] at hS; exact hk.2 id hS
    · by_cases hid : id ∈ U
      · obtain ⟨j, hj⟩ := hmem id hid
        rcases hUget j id hj with ⟨h1, h2⟩ | ⟨h1, _⟩
        · rw [backG_some hU hj]
          obtain ⟨g1, g2, g3, g4⟩ := hanch j id h2
          exact ⟨g1, g2, g3, g4, fun i k hp => absurd hp.1 (by omega)⟩
        · exact absurd ho (hnew j id hj h1)
      · rw [backG_none hid]; exact ⟨rfl, rfl, rfl, rfl, fun _ _ h => h⟩
    · by_cases hid : id ∈ U
      · obtain ⟨j, hj⟩ := hmem id hid
        rcases hUget j id hj with ⟨h1, h2⟩ | ⟨h1, _⟩
        · rw [backG_some hU hj] at hpin; exact absurd hpin.1 (by omega)
        · exact absurd ho (hnew j id hj h1)
      · rw [backG_none hid] at hpin
        rw [World.cell?_of_block (w := w) (hF _ (hoF id _ (hnotH id hid) (pin_own hr hpin).1))]; exact hc
  refine ⟨y, backG G G' U H.length, rfl, hr.turn hstay ?_ (fun id blk hb => ?_) (fun id k hS => ?_) (fun id hid => ?_) (fun id id' k h1 h2 => ?_), back_a hU hOnE hUl hv⟩
  · exact ⟨hbel.os, hbel.tape, hbel.output, hbel.size, fun k hk => hF k ⟨hr.base k hk, fun id _ hS => (hr.own id k hS).1 hk⟩⟩
  · by_cases hid : id ∈ U
    · obtain ⟨j, hj⟩ := hmem id hid
      rw [hgetE j id hj] at hb
      refine ⟨hOnE j id hj, ?_⟩
      cases hq : hget hp1 j with
      | none => rw [hq] at hb; cases hb
      | some b1 =>
        rw [hq] at hb
        obtain ⟨_, hbk⟩ := hr'.hp j b1 hq
        rw [backG_some hU hj]
        cases b1 with
        | var t cs =>
          simp only [renB, Option.some.injEq] at hb
          subst hb
          obtain ⟨h1, h2, arr, h3, h4⟩ := hbk
          exact ⟨h1, fun i k hh => h2 i k hh.2, arr, h3, all2_map h4 fun _ _ h => back_c hU hOnE hUl h⟩
        | row pn e ls =>
          simp only [renB, Option.some.injEq] at hb
          subst hb
          obtain ⟨h1, h2, h3⟩ := hbk
          refine ⟨h1, h2, fun i k => ?_⟩
          simp only [h3, Bool.and_eq_true, decide_eq_true_eq]
          constructor
          · rintro ⟨a1, a2, a3⟩; exact ⟨⟨a2, a1⟩, a3⟩
          · rintro ⟨⟨a2, a1⟩, a3⟩; exact ⟨a1, a2, a3⟩
        | ob o =>
          simp only [renB, Option.some.injEq] at hb
          subst hb
          obtain ⟨h1, h2, h3⟩ := hbk
          exact ⟨h1, fun i k hh => h2 i k hh.2, h3⟩
    · rw [hgetO id hid] at hb
      rw [backG_none hid]
      exact ⟨.inl (hr.hp id blk hb).1, (hr.hp id blk hb).2.stay hstay fun k hS => hF k (hoF id k (hnotH id hid) hS)⟩
  · by_cases hid : id ∈ U
    · obtain ⟨j, hj⟩ := hmem id hid
      rw [backG_some hU hj] at hS
      obtain ⟨h1, h2⟩ := hr'.own j k hS
      exact ⟨fun hk => h1 ⟨hr.base k hk, fun id _ hS => (hr.own id k hS).1 hk⟩, h2⟩
    · rw [backG_none hid] at hS
      exact ⟨(hr.own id k hS).1, Nat.lt_of_lt_of_le (hr.own id k hS).2 hbel.size⟩
  · by_cases hu : id ∈ U
    · obtain ⟨j, hj⟩ := hmem id hu
      rw [hgetE j id hj] at hid
      have hq : hget hp1 j = none := by
        cases hq : hget hp1 j with
        | none => rfl
        | some b1 => rw [hq] at hid; cases b1 <;> simp [renB] at hid
      obtain ⟨h1, h2⟩ := hr'.dead j hq
      rw [backG_some hU hj]
      exact ⟨h1, fun i k hh => h2 i k hh.2⟩
    · rw [hgetO id hu] at hid
      rw [backG_none hu]; exact hr.dead id hid
  · by_cases hu : id ∈ U <;> by_cases hu' : id' ∈ U
    · obtain ⟨j, hj⟩ := hmem id hu
      obtain ⟨j', hj'⟩ := hmem id' hu'
      rw [backG_some hU hj] at h1
      rw [backG_some hU hj'] at h2
      obtain rfl := hr'.dis j j' k h1 h2
      rw [hj] at hj'; exact Option.some.inj hj'
    · obtain ⟨j, hj⟩ := hmem id hu
      rw [backG_some hU hj] at h1
      rw [backG_none hu'] at h2
      exact absurd (hoF id' k (hnotH id' hu') h2) (hr'.own j k h1).1
    · obtain ⟨j', hj'⟩ := hmem id' hu'
      rw [backG_none hu] at h1
      rw [backG_some hU hj'] at h2
      exact absurd (hoF id k (hnotH id hu) h1) (hr'.own j' k h2).1
    · rw [backG_none hu] at h1
      rw [backG_none hu'] at h2
      exact hr.dis id id' k h1 h2
end
end Go.Proofs.Ytekdfddodabfcaa
