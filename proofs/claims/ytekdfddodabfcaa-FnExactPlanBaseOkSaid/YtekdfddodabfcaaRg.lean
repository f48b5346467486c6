/- The reckoner, part M: a law's row closed: from what it is given to its contract, from its contract to the row's post. -/
import Derived.Test.YtekdfddodabfcaaRf
namespace Go.Proofs.Ytekdfddodabfcaa
open Go.RowKit Go.ChangeShapes Go.WideShapes Go.Deep
set_option linter.unusedVariables false
set_option linter.unusedSimpArgs false
section
variable {H : Type} {enc : TypeId × Value → H} {P : Program} {W W' : World} {base : Nat} {held : Bool}

def G0 : Gh := fun _ => ⟨0, true, 0, 0, fun _ => False, fun _ _ => False⟩
def B0 (W : World) : Fr := ⟨fun k => k < W.heap.size, 0, G0⟩
theorem rel0 : SRel P (B0 W) W G0 ⟨[], []⟩ ⟨#[], []⟩ W :=
  ⟨Kept.refl _ _, fun _ h => h, .nil, fun id blk h => by simp [hget] at h, fun _ _ h => h.elim, fun _ _ => ⟨fun _ h => h, fun _ _ h => h⟩, fun _ _ _ h => h.elim, rfl, fun _ h => absurd h (Nat.not_lt_zero _)⟩
theorem cr0 {d : DV} {v : Value} (h : K P W (fun k => k < W.heap.size) d v) : Cr P G0 (fun id => id < ([] : Hp).length) W (dvc d) v := by
  have hU : K P W (Uo G0 W) d v := h.move (fun k hk => ⟨hk, fun _ h => h⟩) (fun _ _ => rfl)
  cases d with
  | s x => cases hU with
    | s hs => exact ⟨rfl, one_of_sca hs⟩
  | l e ls => exact hU
  | no => exact hU.one
theorem calls0 {f : Nat} {xs : List AV} {vs : List Value} {v : AV} (h : FunSem P f [] xs [] v) (hv : All2 (Vr P G0 (fun id => id < ([] : Hp).length) W) xs vs) :
    Calls P f vs.toArray W fun e W' => ∃ y, e = .returned y ∧ Below W.heap.size W W' ∧ ∃ G', Vr P G' (fun id => id < ([] : Hp).length) W' v y := by
  refine (h.2 (B0 W) W G0 ⟨#[], []⟩ W rfl rel0 vs hv).mono fun e W' ⟨y, G', he, hr, hy⟩ => ⟨y, he, ?_, G', hy⟩
  exact ⟨hr.bel.os, hr.bel.tape, hr.bel.output, hr.bel.size, fun k hk => hr.bel.block k hk⟩

/-- An argument of one cell. -/
theorem arg_c {n : Nat} {t : TypeId} {v : Value} {d : DataW H} {p : List MemPlace} (hok : okT P n t = true) (hv : v.cells.toList = [v]) (h : DataW.Trod enc P W base (fun _ => true) held t v d p) :
    ∃ x, K P W (fun k => k < W.heap.size) x v ∧ Good P t x := by
  obtain ⟨fuel, hf⟩ := h
  rw [hv] at hf
  exact trod_good n t fuel v _ hok hf
/-- An argument that is a struct of such cells. -/
theorem arg_ag {n : Nat} {t : TypeId} {fs : Array Field} {v : Value} {d : DataW H} {p : List MemPlace} {r : Reach} {b0 : Nat} (ht : P.underlying t = some (.struct fs)) (hok : okE P (okT P n) t = true)
    (hv : Value.okWide P W r b0 t v) (h : DataW.Trod enc P W base (fun _ => true) held t v d p) :
    ∃ (cs : Array Value) (xs : List DV), v = .agg cs ∧ All2 (K P W (fun k => k < W.heap.size)) xs cs.toList ∧ xs.length = (tysE P t).length ∧ ∀ (j : Nat) tt x, (tysE P t)[j]? = some tt → xs[j]? = some x → Good P tt x := by
  obtain ⟨cs, rfl, hsz⟩ := okWide_struct ht hv
  obtain ⟨fuel, hf⟩ := h
  obtain ⟨hC, _, hg⟩ := trod_cellsE hok (by simpa [Value.cells] using hsz) hf
  have hat : ∀ j : Nat, ∃ x : DV, ∀ tt, (tysE P t)[j]? = some tt → Good P tt x ∧ ∀ v, cs.toList[j]? = some v → K P W (fun k => k < W.heap.size) x v := by
    intro j
    cases htj : (tysE P t)[j]? with
    | none => exact ⟨.no, fun tt h => by cases h⟩
    | some tt =>
      obtain ⟨hok', v, n1, y, hv1, hy⟩ := hg j tt htj
      obtain ⟨x, hk, hgd⟩ := trod_good n tt n1 v y hok' hy
      refine ⟨x, fun tt' h => ?_⟩
      cases h
      refine ⟨hgd, fun v' hv' => ?_⟩
      have : cs.toList[j]? = some v := by simpa [Value.cells] using hv1
      rw [this] at hv'; cases hv'; exact hk
  obtain ⟨f, hf⟩ := Classical.axiomOfChoice hat
  have hl : cs.toList.length = (tysE P t).length := by rw [← hC, ← hsz]; simp
  refine ⟨cs, (List.range (tysE P t).length).map f, rfl, All2.of_get (by simp [hl]) (fun i a b ha hb => ?_), by simp, fun j tt x htt hx => ?_⟩
  · simp only [List.getElem?_map, Option.map_eq_some_iff] at ha
    obtain ⟨i', h1, rfl⟩ := ha
    obtain ⟨h2, h3⟩ := List.getElem?_eq_some_iff.1 h1
    simp only [List.length_range, List.getElem_range] at h2 h3
    subst h3
    exact (hf i _ (List.getElem?_eq_getElem h2)).2 b hb
  · simp only [List.getElem?_map, Option.map_eq_some_iff] at hx
    obtain ⟨i', h1, rfl⟩ := hx
    obtain ⟨h2, h3⟩ := List.getElem?_eq_some_iff.1 h1
    simp only [List.length_range, List.getElem_range] at h2 h3
    subst h3
    exact (hf j tt htt).1
theorem Good.row {t e : TypeId} {x : DV} (hu : P.underlying t = some (.slice e)) (h : Good P t x) : ∃ ls, x = .l e ls ∧ ls.length ≤ 9223372036854775807 ∧ (∀ cs ∈ ls, cs.length = (tysE P e).length) ∧ (∀ cs ∈ ls, ∀ (j : Nat) t d, (tysE P e)[j]? = some t → cs[j]? = some d → Good P t d) := by
  cases h with
  | i h => rw [hu] at h; cases h
  | b h => rw [hu] at h; cases h
  | s h => rw [hu] at h; cases h
  | l h h1 h2 h3 => rw [hu] at h; cases h; exact ⟨_, rfl, h1, h2, h3⟩
theorem Good.int {t : TypeId} {k : IntKind} {x : DV} (hu : P.underlying t = some (.int k)) (h : Good P t x) : ∃ z, x = .s (.int k z) ∧ k.min ≤ z ∧ z ≤ k.max := by
  cases h with
  | i h h1 h2 => rw [hu] at h; cases h; exact ⟨_, rfl, h1, h2⟩
  | b h => rw [hu] at h; cases h
  | s h => rw [hu] at h; cases h
  | l h => rw [hu] at h; cases h
theorem Good.str {t : TypeId} {x : DV} (hu : P.underlying t = some .string) (h : Good P t x) : ∃ s, x = .s (.string s) ∧ s.size ≤ 9223372036854775807 := by
  cases h with
  | i h => rw [hu] at h; cases h
  | b h => rw [hu] at h; cases h
  | s h h1 => exact ⟨_, rfl, h1⟩
  | l h => rw [hu] at h; cases h
theorem Good.bool {t : TypeId} {x : DV} (hu : P.underlying t = some .bool) (h : Good P t x) : ∃ b, x = .s (.bool b) := by
  cases h with
  | i h => rw [hu] at h; cases h
  | b h => exact ⟨_, rfl⟩
  | s h => rw [hu] at h; cases h
  | l h => rw [hu] at h; cases h
/-- A cell's shape by its type. -/
def csT (P : Program) (t : TypeId) : CS := match P.underlying t with
  | some (.int k) => .i k
  | some .bool => .b
  | some .string => .s
  | some (.slice e) => .l e
  | _ => .x
theorem Good.sh1 {t : TypeId} {x : DV} (h : Good P t x) : sh1 (csT P t) x = true := by
  cases h with
  | i h => simp [csT, h, Proofs.Ytekdfddodabfcaa.sh1]
  | b h => simp [csT, h, Proofs.Ytekdfddodabfcaa.sh1]
  | s h => simp [csT, h, Proofs.Ytekdfddodabfcaa.sh1]
  | l h => simp [csT, h, Proofs.Ytekdfddodabfcaa.sh1]
theorem shs_of : ∀ (ts : List TypeId) (cs : List DV), cs.length = ts.length → (∀ (j : Nat) t d, ts[j]? = some t → cs[j]? = some d → Good P t d) → shs (ts.map (csT P)) cs = true := by
  intro ts
  induction ts with
  | nil => intro cs hl _; cases cs with
    | nil => rfl
    | cons => simp at hl
  | cons t ts ih =>
    intro cs hl h
    cases cs with
    | nil => simp at hl
    | cons c cs =>
      simp only [List.map_cons, shs, Bool.and_eq_true]
      exact ⟨(h 0 t c rfl rfl).sh1, ih cs (by simpa using hl) fun j t d h1 h2 => h (j + 1) t d (by simpa using h1) (by simpa using h2)⟩
theorem Shp.good {e : TypeId} {ls : List (List DV)} (hs : shapeT P e = (tysE P e).map (csT P)) (h2 : ∀ cs ∈ ls, cs.length = (tysE P e).length) (h3 : ∀ cs ∈ ls, ∀ (j : Nat) t d, (tysE P e)[j]? = some t → cs[j]? = some d → Good P t d) : Shp P e ls := by
  intro cs hc
  rw [hs]
  exact shs_of _ cs (h2 cs hc) (h3 cs hc)
/-- A cell of a row. -/
theorem good_cell {e t : TypeId} {ls : List (List DV)} (h2 : ∀ cs ∈ ls, cs.length = (tysE P e).length) (h3 : ∀ cs ∈ ls, ∀ (j : Nat) t d, (tysE P e)[j]? = some t → cs[j]? = some d → Good P t d) {i j : Nat} (hi : i < ls.length) (ht : (tysE P e)[j]? = some t) : Good P t (cD ls i j) := by
  have hm := List.getElem_mem hi
  have hj : j < ls[i].length := by rw [h2 _ hm]; exact (List.getElem?_eq_some_iff.1 ht).1
  refine h3 _ hm j t _ ht ?_
  simp [cD, List.getD_eq_getElem?_getD, List.getElem?_eq_getElem hi, List.getElem?_eq_getElem hj]
theorem StrB.good {e : TypeId} {ls : List (List DV)} {js : List Nat} (h2 : ∀ cs ∈ ls, cs.length = (tysE P e).length) (h3 : ∀ cs ∈ ls, ∀ (j : Nat) t d, (tysE P e)[j]? = some t → cs[j]? = some d → Good P t d)
    (hj : ∀ j ∈ js, ∃ t, (tysE P e)[j]? = some t ∧ P.underlying t = some .string) : StrB js ls := by
  intro i hi j hjm
  obtain ⟨t, h1, hu⟩ := hj j hjm
  obtain ⟨s, hs, hb⟩ := (good_cell h2 h3 hi h1).str hu
  simp only [cS, hs, dS]; exact hb

theorem trodAll_stays (hl : laidOutB P = true) (hb : Below W.heap.size W W') : ∀ {ts : List TypeId} {vs : List Value} {ds : List (DataW H)} {ps : List MemPlace}, (ts.all fun t => P.readableRec t && decide (t < P.types.size)) = true →
    DataW.TrodAll enc P W base (fun _ => true) true ts vs ds ps → DataW.TrodAll enc P W' base (fun b => decide (b < W.heap.size)) true ts vs ds ps
  | [], _, _, _, _, h => by
    obtain ⟨rfl, rfl, rfl⟩ := trodAll_nil h
    rfl
  | _ :: _, _, _, _, ht, h => by
    have hlt := h.lt
    obtain ⟨v, vs1, d, ds1, a, b, rfl, rfl, rfl, h1, h2⟩ := trodAll_cons h
    simp only [List.all_cons, Bool.and_eq_true, decide_eq_true_eq] at ht
    exact ⟨a, b, WideElems.Trod_stays hl ht.1.1 ht.1.2 h1 (fun p hp => hb.same (hlt p (by simp [hp]))) (fun p hp => by simpa using hlt p (by simp [hp])), trodAll_stays hl hb (by simpa using ht.2) h2, rfl⟩
theorem all_cr {xs : List DV} {vs : List Value} (h : All2 (K P W (fun k => k < W.heap.size)) xs vs) : All2 (Cr P G0 (fun id => id < ([] : Hp).length) W) (xs.map dvc) vs := by
  induction h with
  | nil => exact .nil
  | cons h0 _ ih => exact .cons (cr0 h0) ih
end
end Go.Proofs.Ytekdfddodabfcaa
