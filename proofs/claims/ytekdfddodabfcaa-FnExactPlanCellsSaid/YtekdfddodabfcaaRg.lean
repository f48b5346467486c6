/- The reckoner, part L: what a law is given, read as data; the law's row closed. -/
import Derived.Test.YtekdfddodabfcaaRf
import Derived.Deep.Slices
import Derived.Deep.Fields
import Derived.ChangeArms
import Derived.DataReads
import Derived.WideKeyArgs
import Derived.ChangeSame
import Derived.ChangeOld
import Derived.SizedLaws
import Derived.OpenShut
namespace Go.Proofs.Ytekdfddodabfcaa
open Go.RowKit Go.ChangeShapes Go.WideShapes Go.Deep
set_option linter.unusedVariables false
set_option linter.unusedSimpArgs false

/-- The types of an element's cells. -/
def tysE (P : Program) (e : TypeId) : List TypeId := match P.underlying e with
  | some (.struct fs) => fs.toList.map (·.type)
  | _ => [e]
def okE (P : Program) (ok : TypeId → Bool) (e : TypeId) : Bool := (match P.underlying e with
  | some (.struct fs) => oneCellFields P fs && fs.toList.all fun f => ok f.type
  | _ => ok e) && (P.cellsOf e == (tysE P e).length) && decide (0 < (tysE P e).length)
def okT (P : Program) : Nat → TypeId → Bool
  | 0, _ => false
  | n + 1, t => match P.underlying t with
    | some (.int _) | some .bool | some .string => true
    | some (.slice e) => okE P (okT P n) e
    | _ => false

/-- Data that a type may have. -/
inductive Good (P : Program) : TypeId → DV → Prop
  | i {t : TypeId} {k : IntKind} {z : Int} : P.underlying t = some (.int k) → k.min ≤ z → z ≤ k.max → Good P t (.s (.int k z))
  | b {t : TypeId} {b : Bool} : P.underlying t = some .bool → Good P t (.s (.bool b))
  | s {t : TypeId} {s : ByteArray} : P.underlying t = some .string → s.size ≤ 9223372036854775807 → Good P t (.s (.string s))
  | l {t e : TypeId} {ls : List (List DV)} : P.underlying t = some (.slice e) → ls.length ≤ 9223372036854775807 → (∀ cs ∈ ls, cs.length = (tysE P e).length) →
      (∀ cs ∈ ls, ∀ (j : Nat) t d, (tysE P e)[j]? = some t → cs[j]? = some d → Good P t d) → Good P t (.l e ls)

section
variable {H : Type} {enc : TypeId × Value → H} {P : Program} {w : World} {base : Nat} {held : Bool}

theorem trod_cellsE {ok : TypeId → Bool} {e : TypeId} {fuel : Nat} {cs : List Value} {x : DataW H × List MemPlace} (he : okE P ok e = true) (hlen : cs.length = P.cellsOf e) (h : DataW.trod enc P w base (fun _ => true) held fuel e cs = some x) :
    P.cellsOf e = (tysE P e).length ∧ 0 < (tysE P e).length ∧ ∀ (j : Nat) t, (tysE P e)[j]? = some t → ok t = true ∧ ∃ v n y, cs[j]? = some v ∧ DataW.trod enc P w base (fun _ => true) held n t [v] = some y := by
  unfold okE at he
  simp only [Bool.and_eq_true, beq_iff_eq, decide_eq_true_eq] at he
  obtain ⟨⟨he, hC⟩, hpos⟩ := he
  refine ⟨hC, hpos, fun j t ht => ?_⟩
  split at he
  · rename_i fs hu
    simp only [Bool.and_eq_true, List.all_eq_true] at he
    obtain ⟨ys, n, _, _, _, hyl, hf⟩ := DataW.trod_struct hu h
    have htys : tysE P e = fs.toList.map (·.type) := by unfold tysE; rw [hu]
    rw [htys] at ht hC
    simp only [List.getElem?_map, Option.map_eq_some_iff] at ht
    obtain ⟨f, hfj, rfl⟩ := ht
    have hfj' : fs[j]? = some f := by simpa using hfj
    obtain ⟨ho, hk⟩ := hone_of he.1 j f hfj'
    have hjl : j < fs.size := (Array.getElem?_eq_some_iff.1 hfj').1
    have hjc : j < cs.length := by rw [hlen, hC]; simpa using hjl
    have h1 := hf j f hfj'
    rw [ho, hk] at h1
    have hone' : (cs.drop j).take 1 = [cs[j]] := by
      rw [List.drop_eq_getElem_cons hjc]; rfl
    rw [hone'] at h1
    have hys : ys[j]? = some (ys[j]'(by omega)) := List.getElem?_eq_getElem (by omega)
    exact ⟨he.2 f (List.mem_of_getElem? hfj), cs[j], n, _, List.getElem?_eq_getElem hjc, h1.trans hys⟩
  · rename_i hns
    have htys : tysE P e = [e] := by
      unfold tysE
      split
      · rename_i fs hu; exact absurd hu (hns fs)
      · rfl
    rw [htys] at ht hC
    match j, ht with
    | 0, ht =>
      simp only [List.getElem?_cons_zero, Option.some.injEq] at ht; subst ht
      match cs, (hlen.trans hC : cs.length = 1) with
      | [v], _ => exact ⟨he, v, fuel, x, rfl, h⟩

theorem cell_at {a : Addr} {v : Value} (h : w.cell? a = some v) : ∃ arr t fz, w.heap[a.block]? = some (.cells arr t fz) ∧ a.spot = none ∧ arr[a.off]? = some v := by
  unfold World.cell? at h
  split at h
  · rename_i c t fz hh
    split at h
    · cases h
    · rename_i hs
      exact ⟨c, t, fz, hh, by simpa using hs, h⟩
  · cases h

theorem trod_good : ∀ (n : Nat) (t : TypeId) (fuel : Nat) (v : Value) (x : DataW H × List MemPlace), okT P n t = true → DataW.trod enc P w base (fun _ => true) held fuel t [v] = some x →
    ∃ d, K P w (fun k => k < w.heap.size) d v ∧ Good P t d := by
  have hsz : ∀ e, P.cellsOf e = szT P e := fun _ => rfl
  intro n
  induction n with
  | zero => intro t fuel v x h; cases h
  | succ n ih =>
    intro t fuel v x hok h
    unfold okT at hok
    split at hok
    · rename_i k hu
      obtain ⟨z, hc, _, hw⟩ := DataW.trod_int hu h
      simp only [List.cons.injEq, and_true] at hc; subst hc
      simp only [Lit.wf, Bool.and_eq_true, decide_eq_true_eq] at hw
      exact ⟨_, .s rfl, .i hu hw.1 hw.2⟩
    · rename_i hu
      obtain ⟨b, hc, _⟩ := DataW.trod_bool hu h
      simp only [List.cons.injEq, and_true] at hc; subst hc
      exact ⟨_, .s rfl, .b hu⟩
    · rename_i hu
      obtain ⟨s, hc, _, hs⟩ := DataW.trod_string hu h
      simp only [List.cons.injEq, and_true] at hc; subst hc
      exact ⟨_, .s rfl, .s hu hs⟩
    · rename_i e hu
      rcases open_slice hu h with ⟨hc, _⟩ | ⟨a, len, cap, m, n', D, Pl, hc, _, hl, hm, hmm, _, hi⟩
      · simp only [List.cons.injEq, and_true] at hc; subst hc
        exact ⟨.l e [], .nil, .l hu (by simp) (by simp) (by simp)⟩
      simp only [List.cons.injEq, and_true] at hc; subst hc
      have hmm : m = cap := by simpa using hmm
      rw [hmm] at hi
      by_cases hcap : cap = 0
      · subst hcap
        obtain rfl : len = 0 := by omega
        exact ⟨.l e [], .nil, .l hu (by simp) (by simp) (by simp)⟩
      have hel : ∀ i, i < cap → ∃ cs' : List Value, (P.cellsOf e = (tysE P e).length ∧ 0 < (tysE P e).length) ∧ (∀ j, j < P.cellsOf e → w.cell? ((a.add (i * P.cellsOf e)).add j) = cs'[j]?) ∧ ∀ (j : Nat) t, (tysE P e)[j]? = some t → okT P n t = true ∧ ∃ v n y, cs'[j]? = some v ∧ DataW.trod enc P w base (fun _ => true) held n t [v] = some y := by
        intro i hic
        obtain ⟨cs', h1, h2⟩ := hi i hic
        obtain ⟨_, h3, h4⟩ := World.cells?_some h1
        obtain ⟨h5, h7, h6⟩ := trod_cellsE hok h3 h2
        exact ⟨cs', ⟨h5, h7⟩, h4, h6⟩
      have hpos : P.cellsOf e = (tysE P e).length ∧ 0 < (tysE P e).length := by
        obtain ⟨cs', h1, _⟩ := hel 0 (by omega)
        exact h1
      obtain ⟨hC, hpos⟩ := hpos
      have hblk : ∃ arr tt fz, w.heap[a.block]? = some (.cells arr tt fz) ∧ a.spot = none := by
        obtain ⟨cs', _, h2, h3⟩ := hel 0 (by omega)
        obtain ⟨_, v, _, _, hv, _⟩ := h3 0 _ (List.getElem?_eq_getElem hpos)
        have := (h2 0 (by omega)).trans hv
        simp only [Nat.zero_mul, Addr.add, if_true] at this
        obtain ⟨arr, tt, fz, h4, h5, _⟩ := cell_at this
        exact ⟨arr, tt, fz, h4, h5⟩
      obtain ⟨arr, tt, fz, hh, hsp⟩ := hblk
      have hat : ∀ p : Nat × Nat, ∃ q : DV × Value, p.1 < len → ∀ t, (tysE P e)[p.2]? = some t → arr[a.off + p.1 * P.cellsOf e + p.2]? = some q.2 ∧ K P w (fun k => k < w.heap.size) q.1 q.2 ∧ Good P t q.1 := by
        intro ⟨i, j⟩
        by_cases hil : i < len
        · cases htj : (tysE P e)[j]? with
          | none => exact ⟨(.no, .bool true), fun _ t ht => by cases ht⟩
          | some t =>
            obtain ⟨cs', _, h2, h3⟩ := hel i (by omega)
            obtain ⟨hokt, v, n1, y, hv, hy⟩ := h3 j t htj
            obtain ⟨d, hk, hg⟩ := ih t n1 v y hokt hy
            have hjl : j < (tysE P e).length := (List.getElem?_eq_some_iff.1 htj).1
            have h4 := (h2 j (by omega)).trans hv
            obtain ⟨arr', tt', fz', h5, h6, h7⟩ := cell_at h4
            have hb : ((a.add (i * P.cellsOf e)).add j).block = a.block := by unfold Addr.add; split <;> split <;> rfl
            have ho : ((a.add (i * P.cellsOf e)).add j).off = a.off + i * P.cellsOf e + j := by unfold Addr.add; split <;> split <;> simp_all
            rw [hb, hh] at h5
            cases h5
            rw [ho] at h7
            refine ⟨(d, v), fun _ t' ht' => ?_⟩
            cases ht'
            exact ⟨h7, hk, hg⟩
        · exact ⟨(.no, .bool true), fun h => absurd h hil⟩
      obtain ⟨f, hf⟩ := Classical.axiomOfChoice hat
      have hls : ∀ (i : Nat) cs, ((List.range len).map fun i => (List.range (P.cellsOf e)).map fun j => (f (i, j)).1)[i]? = some cs → i < len ∧ cs = (List.range (P.cellsOf e)).map fun j => (f (i, j)).1 := by
        intro i cs hi
        simp only [List.getElem?_map, Option.map_eq_some_iff] at hi
        obtain ⟨i', h1, rfl⟩ := hi
        obtain ⟨h2, h3⟩ := List.getElem?_eq_some_iff.1 h1
        simp only [List.length_range, List.getElem_range] at h2 h3
        subst h3
        exact ⟨h2, rfl⟩
      have hcs : ∀ (i j : Nat) d, ((List.range (P.cellsOf e)).map fun j => (f (i, j)).1)[j]? = some d → j < P.cellsOf e ∧ d = (f (i, j)).1 := by
        intro i j d hj
        simp only [List.getElem?_map, Option.map_eq_some_iff] at hj
        obtain ⟨i', h1, rfl⟩ := hj
        obtain ⟨h2, h3⟩ := List.getElem?_eq_some_iff.1 h1
        simp only [List.length_range, List.getElem_range] at h2 h3
        subst h3
        exact ⟨h2, rfl⟩
      have hlen : ((List.range len).map fun i => (List.range (P.cellsOf e)).map fun j => (f (i, j)).1).length = len := by simp
      refine ⟨.l e ((List.range len).map fun i => (List.range (P.cellsOf e)).map fun j => (f (i, j)).1), ?_, .l hu ?_ ?_ ?_⟩
      · have := K.l (P := P) (w := w) (U := fun k => k < w.heap.size) (e := e) (ls := (List.range len).map fun i => (List.range (P.cellsOf e)).map fun j => (f (i, j)).1) (b := a.block) (o := a.off) (cap := cap) (arr := arr) (t := tt) (fz := fz) (vals := fun i j => (f (i, j)).2)
          ((Array.getElem?_eq_some_iff.1 hh).1) hh (by rw [hlen]; exact hl) hm
          (fun i cs hi => by obtain ⟨_, rfl⟩ := hls i cs hi; simp [hsz])
          (fun i cs j d hi hj => by
            obtain ⟨h1, rfl⟩ := hls i cs hi
            obtain ⟨h2, rfl⟩ := hcs i j d hj
            rw [← hsz]
            exact (hf (i, j) h1 _ (List.getElem?_eq_getElem (by rw [← hC]; exact h2))).1)
          (fun i cs j d hi hj => by
            obtain ⟨h1, rfl⟩ := hls i cs hi
            obtain ⟨h2, rfl⟩ := hcs i j d hj
            exact (hf (i, j) h1 _ (List.getElem?_eq_getElem (by rw [← hC]; exact h2))).2.1)
        rw [hlen] at this
        have ha : a = ⟨a.block, a.off, none⟩ := by cases a; simp_all
        rw [ha]; exact this
      · rw [hlen]; exact Nat.le_trans hl hm
      · intro cs hcm
        obtain ⟨i, hi⟩ := List.mem_iff_getElem?.1 hcm
        obtain ⟨_, rfl⟩ := hls i cs hi
        simp [hC]
      · intro cs hcm j t d ht hd
        obtain ⟨i, hi⟩ := List.mem_iff_getElem?.1 hcm
        obtain ⟨h1, rfl⟩ := hls i cs hi
        obtain ⟨h2, rfl⟩ := hcs i j d hd
        exact (hf (i, j) h1 t ht).2.2
    · cases hok
end
end Go.Proofs.Ytekdfddodabfcaa
/- The reckoner, part M: a law's row closed: from what it is given to its contract, from its contract to the row's post. -/
namespace Go.Proofs.Ytekdfddodabfcaa
open Go.RowKit Go.ChangeShapes Go.WideShapes Go.Deep
set_option linter.unusedVariables false
set_option linter.unusedSimpArgs false
section
variable {H : Type} {enc : TypeId × Value → H} {P : Program} {W W' : World} {base : Nat} {held : Bool}

def G0 : Gh := fun _ => ⟨0, true, 0, 0, fun _ => False, fun _ _ => False⟩
def B0 (W : World) : Fr := ⟨fun k => k < W.heap.size, 0, G0⟩
theorem rel0 : SRel P (B0 W) W G0 ⟨[], []⟩ ⟨#[], []⟩ W :=
  ⟨Kept.refl _ _, fun _ h => h, .nil, fun id blk h => by simp [hget] at h, fun _ _ h => h.elim, fun _ _ => ⟨fun _ h => h, fun _ _ h => h⟩, fun _ _ _ h => h.elim, rfl, fun _ h => absurd h (Nat.not_lt_zero _)⟩
theorem cr0 {d : DV} {v : Value} (h : K P W (fun k => k < W.heap.size) d v) : Cr P G0 (fun id => id < ([] : Hp).length) W (dvc d) v := by
  have hU : K P W (Uo G0 W) d v := h.move (fun k hk => ⟨hk, fun _ h => h⟩) (fun _ _ => rfl)
  cases d with
  | s x => cases hU with
    | s hs => exact ⟨rfl, one_of_sca hs⟩
  | l e ls => exact hU
  | no => exact hU.one
theorem calls0 {f : Nat} {xs : List AV} {vs : List Value} {v : AV} (h : FunSem P f [] xs [] v) (hv : All2 (Vr P G0 (fun id => id < ([] : Hp).length) W) xs vs) :
    Calls P f vs.toArray W fun e W' => ∃ y, e = .returned y ∧ Below W.heap.size W W' ∧ ∃ G', Vr P G' (fun id => id < ([] : Hp).length) W' v y := by
  refine (h.2 (B0 W) W G0 ⟨#[], []⟩ W rfl rel0 vs hv).mono fun e W' ⟨y, G', he, hr, hy⟩ => ⟨y, he, ?_, G', hy⟩
  exact ⟨hr.bel.os, hr.bel.tape, hr.bel.output, hr.bel.size, fun k hk => hr.bel.block k hk⟩

/-- An argument of one cell. -/
theorem arg_c {n : Nat} {t : TypeId} {v : Value} {d : DataW H} {p : List MemPlace} (hok : okT P n t = true) (hv : v.cells.toList = [v]) (h : DataW.Trod enc P W base (fun _ => true) held t v d p) :
    ∃ x, K P W (fun k => k < W.heap.size) x v ∧ Good P t x := by
  obtain ⟨fuel, hf⟩ := h
  rw [hv] at hf
  exact trod_good n t fuel v _ hok hf
/-- An argument that is a struct of such cells. -/
theorem arg_ag {n : Nat} {t : TypeId} {fs : Array Field} {v : Value} {d : DataW H} {p : List MemPlace} {r : Reach} {b0 : Nat} (ht : P.underlying t = some (.struct fs)) (hok : okE P (okT P n) t = true)
    (hv : Value.okWide P W r b0 t v) (h : DataW.Trod enc P W base (fun _ => true) held t v d p) :
    ∃ (cs : Array Value) (xs : List DV), v = .agg cs ∧ All2 (K P W (fun k => k < W.heap.size)) xs cs.toList ∧ xs.length = (tysE P t).length ∧ ∀ (j : Nat) tt x, (tysE P t)[j]? = some tt → xs[j]? = some x → Good P tt x := by
  obtain ⟨cs, rfl, hsz⟩ := okWide_struct ht hv
  obtain ⟨fuel, hf⟩ := h
  obtain ⟨hC, _, hg⟩ := trod_cellsE hok (by simpa [Value.cells] using hsz) hf
  have hat : ∀ j : Nat, ∃ x : DV, ∀ tt, (tysE P t)[j]? = some tt → Good P tt x ∧ ∀ v, cs.toList[j]? = some v → K P W (fun k => k < W.heap.size) x v := by
    intro j
    cases htj : (tysE P t)[j]? with
    | none => exact ⟨.no, fun tt h => by cases h⟩
    | some tt =>
      obtain ⟨hok', v, n1, y, hv1, hy⟩ := hg j tt htj
      obtain ⟨x, hk, hgd⟩ := trod_good n tt n1 v y hok' hy
      refine ⟨x, fun tt' h => ?_⟩
      cases h
      refine ⟨hgd, fun v' hv' => ?_⟩
      have : cs.toList[j]? = some v := by simpa [Value.cells] using hv1
      rw [this] at hv'; cases hv'; exact hk
  obtain ⟨f, hf⟩ := Classical.axiomOfChoice hat
  have hl : cs.toList.length = (tysE P t).length := by rw [← hC, ← hsz]; simp
  refine ⟨cs, (List.range (tysE P t).length).map f, rfl, All2.of_get (by simp [hl]) (fun i a b ha hb => ?_), by simp, fun j tt x htt hx => ?_⟩
  · simp only [List.getElem?_map, Option.map_eq_some_iff] at ha
    obtain ⟨i', h1, rfl⟩ := ha
    obtain ⟨h2, h3⟩ := List.getElem?_eq_some_iff.1 h1
    simp only [List.length_range, List.getElem_range] at h2 h3
    subst h3
    exact (hf i _ (List.getElem?_eq_getElem h2)).2 b hb
  · simp only [List.getElem?_map, Option.map_eq_some_iff] at hx
    obtain ⟨i', h1, rfl⟩ := hx
    obtain ⟨h2, h3⟩ := List.getElem?_eq_some_iff.1 h1
    simp only [List.length_range, List.getElem_range] at h2 h3
    subst h3
    exact (hf j tt htt).1
theorem Good.row {t e : TypeId} {x : DV} (hu : P.underlying t = some (.slice e)) (h : Good P t x) : ∃ ls, x = .l e ls ∧ ls.length ≤ 9223372036854775807 ∧ (∀ cs ∈ ls, cs.length = (tysE P e).length) ∧ (∀ cs ∈ ls, ∀ (j : Nat) t d, (tysE P e)[j]? = some t → cs[j]? = some d → Good P t d) := by
  cases h with
  | i h => rw [hu] at h; cases h
  | b h => rw [hu] at h; cases h
  | s h => rw [hu] at h; cases h
  | l h h1 h2 h3 => rw [hu] at h; cases h; exact ⟨_, rfl, h1, h2, h3⟩
theorem Good.int {t : TypeId} {k : IntKind} {x : DV} (hu : P.underlying t = some (.int k)) (h : Good P t x) : ∃ z, x = .s (.int k z) ∧ k.min ≤ z ∧ z ≤ k.max := by
  cases h with
  | i h h1 h2 => rw [hu] at h; cases h; exact ⟨_, rfl, h1, h2⟩
  | b h => rw [hu] at h; cases h
  | s h => rw [hu] at h; cases h
  | l h => rw [hu] at h; cases h
theorem Good.str {t : TypeId} {x : DV} (hu : P.underlying t = some .string) (h : Good P t x) : ∃ s, x = .s (.string s) ∧ s.size ≤ 9223372036854775807 := by
  cases h with
  | i h => rw [hu] at h; cases h
  | b h => rw [hu] at h; cases h
  | s h h1 => exact ⟨_, rfl, h1⟩
  | l h => rw [hu] at h; cases h
theorem Good.bool {t : TypeId} {x : DV} (hu : P.underlying t = some .bool) (h : Good P t x) : ∃ b, x = .s (.bool b) := by
  cases h with
  | i h => rw [hu] at h; cases h
  | b h => exact ⟨_, rfl⟩
  | s h => rw [hu] at h; cases h
  | l h => rw [hu] at h; cases h
/-- A cell's shape by its type. -/
def csT (P : Program) (t : TypeId) : CS := match P.underlying t with
  | some (.int k) => .i k
  | some .bool => .b
  | some .string => .s
  | some (.slice e) => .l e
  | _ => .x
theorem Good.sh1 {t : TypeId} {x : DV} (h : Good P t x) : sh1 (csT P t) x = true := by
  cases h with
  | i h => simp [csT, h, Proofs.Ytekdfddodabfcaa.sh1]
  | b h => simp [csT, h, Proofs.Ytekdfddodabfcaa.sh1]
  | s h => simp [csT, h, Proofs.Ytekdfddodabfcaa.sh1]
  | l h => simp [csT, h, Proofs.Ytekdfddodabfcaa.sh1]
theorem shs_of : ∀ (ts : List TypeId) (cs : List DV), cs.length = ts.length → (∀ (j : Nat) t d, ts[j]? = some t → cs[j]? = some d → Good P t d) → shs (ts.map (csT P)) cs = true := by
  intro ts
  induction ts with
  | nil => intro cs hl _; cases cs with
    | nil => rfl
    | cons => simp at hl
  | cons t ts ih =>
    intro cs hl h
    cases cs with
    | nil => simp at hl
    | cons c cs =>
      simp only [List.map_cons, shs, Bool.and_eq_true]
      exact ⟨(h 0 t c rfl rfl).sh1, ih cs (by simpa using hl) fun j t d h1 h2 => h (j + 1) t d (by simpa using h1) (by simpa using h2)⟩
theorem Shp.good {e : TypeId} {ls : List (List DV)} (hs : shapeT P e = (tysE P e).map (csT P)) (h2 : ∀ cs ∈ ls, cs.length = (tysE P e).length) (h3 : ∀ cs ∈ ls, ∀ (j : Nat) t d, (tysE P e)[j]? = some t → cs[j]? = some d → Good P t d) : Shp P e ls := by
  intro cs hc
  rw [hs]
  exact shs_of _ cs (h2 cs hc) (h3 cs hc)
/-- A cell of a row. -/
theorem good_cell {e t : TypeId} {ls : List (List DV)} (h2 : ∀ cs ∈ ls, cs.length = (tysE P e).length) (h3 : ∀ cs ∈ ls, ∀ (j : Nat) t d, (tysE P e)[j]? = some t → cs[j]? = some d → Good P t d) {i j : Nat} (hi : i < ls.length) (ht : (tysE P e)[j]? = some t) : Good P t (cD ls i j) := by
  have hm := List.getElem_mem hi
  have hj : j < ls[i].length := by rw [h2 _ hm]; exact (List.getElem?_eq_some_iff.1 ht).1
  refine h3 _ hm j t _ ht ?_
  simp [cD, List.getD_eq_getElem?_getD, List.getElem?_eq_getElem hi, List.getElem?_eq_getElem hj]
theorem StrB.good {e : TypeId} {ls : List (List DV)} {js : List Nat} (h2 : ∀ cs ∈ ls, cs.length = (tysE P e).length) (h3 : ∀ cs ∈ ls, ∀ (j : Nat) t d, (tysE P e)[j]? = some t → cs[j]? = some d → Good P t d)
    (hj : ∀ j ∈ js, ∃ t, (tysE P e)[j]? = some t ∧ P.underlying t = some .string) : StrB js ls := by
  intro i hi j hjm
  obtain ⟨t, h1, hu⟩ := hj j hjm
  obtain ⟨s, hs, hb⟩ := (good_cell h2 h3 hi h1).str hu
  simp only [cS, hs, dS]; exact hb

theorem trodAll_stays (hl : laidOutB P = true) (hb : Below W.heap.size W W') : ∀ {ts : List TypeId} {vs : List Value} {ds : List (DataW H)} {ps : List MemPlace}, (ts.all fun t => P.readableRec t && decide (t < P.types.size)) = true →
    DataW.TrodAll enc P W base (fun _ => true) true ts vs ds ps → DataW.TrodAll enc P W' base (fun b => decide (b < W.heap.size)) true ts vs ds ps
  | [], _, _, _, _, h => by
    obtain ⟨rfl, rfl, rfl⟩ := trodAll_nil h
    rfl
  | _ :: _, _, _, _, ht, h => by
    have hlt := h.lt
    obtain ⟨v, vs1, d, ds1, a, b, rfl, rfl, rfl, h1, h2⟩ := trodAll_cons h
    simp only [List.all_cons, Bool.and_eq_true, decide_eq_true_eq] at ht
    exact ⟨a, b, WideElems.Trod_stays hl ht.1.1 ht.1.2 h1 (fun p hp => hb.same (hlt p (by simp [hp]))) (fun p hp => by simpa using hlt p (by simp [hp])), trodAll_stays hl hb (by simpa using ht.2) h2, rfl⟩
theorem all_cr {xs : List DV} {vs : List Value} (h : All2 (K P W (fun k => k < W.heap.size)) xs vs) : All2 (Cr P G0 (fun id => id < ([] : Hp).length) W) (xs.map dvc) vs := by
  induction h with
  | nil => exact .nil
  | cons h0 _ ih => exact .cons (cr0 h0) ih
end
end Go.Proofs.Ytekdfddodabfcaa
/- The reckoner, part N: contracts of functions that turn rows that they are handed. -/
namespace Go.Proofs.Ytekdfddodabfcaa
open Go.RowKit
set_option linter.unusedVariables false
set_option linter.unusedSimpArgs false
/-- An argument's cell: read, or a row handed over (its elements' type). -/
inductive MS where
  | r (y : CS)
  | h (e : Nat)
inductive MA where
  | c (y : MS)
  | ag (xs : List MS)
def memL (x : Nat) : List Nat → Bool
  | [] => false
  | y :: l => match Nat.beq x y with
    | true => true
    | false => memL x l
theorem memL_iff {x : Nat} : ∀ {l : List Nat}, memL x l = true ↔ x ∈ l := by
  intro l
  induction l with
  | nil => simp [memL]
  | cons y l ih =>
    unfold memL
    split
    · rename_i h; simp [Nat.eq_of_beq_eq_true h]
    · rename_i h
      rw [ih]
      have : x ≠ y := fun e => by subst e; rw [Nat.beq_refl] at h; cases h
      simp [this]
def nodL : List Nat → Bool
  | [] => true
  | x :: l => match memL x l with
    | true => false
    | false => nodL l
theorem nodL_ok : ∀ {l : List Nat}, nodL l = true → l.Nodup := by
  intro l
  induction l with
  | nil => intro _; exact List.nodup_nil
  | cons x l ih =>
    intro h
    unfold nodL at h
    split at h
    · cases h
    · rename_i hm
      exact List.nodup_cons.2 ⟨fun hx => (by rw [memL_iff.2 hx] at hm; cases hm), ih h⟩
/-- What one cell is lent as (H: the blocks handed over so far). -/
def lendM1 (P : Program) (hp : Hp) (H : List Nat) (sh : MS) (c : CV) : Option (CV × List Prop × List (Nat × AB) × List Nat) :=
  match sh with
  | .r q => match lendC1 P hp q c with
    | some (y, p, T) => some (y, p, T, H)
    | none => none
  | .h e => match c with
    | .sl id n => match hget hp id with
      | some (.row _ e' _) => match Nat.beq e e' with
        | true => some (.sl H.length n, [], [], H ++ [id])
        | _ => none
      | _ => none
    | _ => none
def lendMs (P : Program) (hp : Hp) : List Nat → List MS → List CV → Option (List CV × List Prop × List (Nat × AB) × List Nat)
  | H, [], [] => some ([], [], [], H)
  | H, sh :: shs, c :: cs => match lendM1 P hp H sh c with
    | some (y, p, T, H') => match lendMs P hp H' shs cs with
      | some (ys, q, T', H'') => some (y :: ys, p ++ q, T ++ T', H'')
      | none => none
    | none => none
  | _, _, _ => none
def lendMA (P : Program) (hp : Hp) (H : List Nat) : MA → AV → Option (AV × List Prop × List (Nat × AB) × List Nat)
  | .c sh, .c c => match lendM1 P hp H sh c with
    | some (y, p, T, H') => some (.c y, p, T, H')
    | none => none
  | .ag shs, .ag cs => match lendMs P hp H shs cs with
    | some (ys, p, T, H') => some (.ag ys, p, T, H')
    | none => none
  | _, _ => none
def lendMAs (P : Program) (hp : Hp) : List Nat → List MA → List AV → Option (List AV × List Prop × List (Nat × AB) × List Nat)
  | H, [], [] => some ([], [], [], H)
  | H, sh :: shs, c :: cs => match lendMA P hp H sh c with
    | some (y, p, T, H') => match lendMAs P hp H' shs cs with
      | some (ys, q, T', H'') => some (y :: ys, p ++ q, T ++ T', H'')
      | none => none
    | none => none
  | _, _, _ => none
def blkAt (hp : Hp) : List Nat → Hp
  | [] => []
  | id :: l => hget hp id :: blkAt hp l
def thL (hp : Hp) : List Nat → List (Nat × AB)
  | [] => []
  | id :: l => match hget hp id with
    | some b => (id, b) :: thL hp l
    | none => thL hp l
def rowsH (hp : Hp) : List Nat → Bool
  | [] => true
  | id :: l => match hget hp id with
    | some (.row _ _ _) => rowsH hp l
    | _ => false
def apartH (H : List Nat) : List (Nat × AB) → Bool
  | [] => true
  | x :: l => match memL x.1 H with
    | true => false
    | false => apartH H l

section
variable {P : Program} {hp : Hp} {H Hf : List Nat} {T Tf : List (Nat × AB)}
theorem apartH_ok : ∀ {T : List (Nat × AB)}, apartH H T = true → ∀ x ∈ T, x.1 ∉ H := by
  intro T
  induction T with
  | nil => intro _ x hx; cases hx
  | cons y T ih =>
    intro h x hx
    unfold apartH at h
    split at h
    · cases h
    · rename_i hm
      rcases List.mem_cons.1 hx with rfl | hx
      · intro hh; rw [memL_iff.2 hh] at hm; cases hm
      · exact ih h x hx
theorem LendC.toH {c d : CV} (hT : ∀ x ∈ T, x.1 ∉ H) (h : LendC T [] c d) (hf : ∀ f ps, d ≠ .fn f ps) : LendC T H c d := by
  cases d <;> cases c <;> first
    | exact h
    | trivial
    | (obtain ⟨h1, h2, pn, hm⟩ := h; exact ⟨hT _ hm, h2, pn, hm⟩)
    | (obtain ⟨h1, h2, pn, ls, hm, h3⟩ := h; exact ⟨hT _ hm, h2, pn, ls, hm, h3⟩)
    | (obtain ⟨h1, e, ls, cs, hm, h3⟩ := h; exact ⟨hT _ hm, e, ls, cs, hm, h3⟩)
    | (obtain ⟨h1, h2, pn, e, ls, hm, h3⟩ := h; exact ⟨hT _ hm, h2, pn, e, ls, hm, h3⟩)
    | (obtain ⟨h1, h2⟩ := h; simp at h1; done)
    | (simp [LendC] at h; done)
    | exact absurd rfl (hf _ _)
theorem lendC1_nofn {sh : CS} {c y : CV} {p : List Prop} (h : lendC1 P hp sh c = some (y, p, T)) : ∀ f ps, y ≠ .fn f ps := by
  intro f ps e
  subst e
  unfold lendC1 at h
  split at h
  all_goals (try split at h)
  all_goals (try split at h)
  all_goals (try split at h)
  all_goals simp at h
theorem lendM1_ok {sh : MS} {c y : CV} {p : List Prop} {H' : List Nat} (h : lendM1 P hp H sh c = some (y, p, T, H')) (hp' : andL p) : (∃ l, H' = H ++ l) ∧ (∀ x ∈ T, hget hp x.1 = some x.2) ∧
    ((∃ l, Hf = H' ++ l) → (∀ x ∈ Tf, x.1 ∈ Hf → x ∉ T) → (∀ x ∈ T, x ∈ Tf) → LendC Tf Hf c y) := by
  unfold lendM1 at h
  split at h
  · split at h
    · rename_i hl
      injection h with h; injection h with e1 h; injection h with e2 h; injection h with e3 e4
      subst e1; subst e2; subst e3; subst e4
      obtain ⟨h1, h2⟩ := lendC1_sound hl hp'
      refine ⟨⟨[], by simp⟩, h2, fun _ ha hs => ?_⟩
      exact (h1.toH (H := Hf) (fun x hx hh => ha x (hs x hx) hh hx) (lendC1_nofn hl)).mono hs
    · cases h
  · split at h
    · split at h
      · split at h
        · injection h with h; injection h with e1 h; injection h with e2 h; injection h with e3 e4
          subst e1; subst e2; subst e3; subst e4
          refine ⟨⟨_, rfl⟩, by simp, fun ⟨l, hl⟩ _ _ => ⟨?_, rfl⟩⟩
          rw [hl]; simp
        · cases h
      · cases h
    · cases h
theorem lendMs_ok : ∀ {shs : List MS} {cs ys : List CV} {p : List Prop} {T : List (Nat × AB)} {H H' : List Nat}, lendMs P hp H shs cs = some (ys, p, T, H') → andL p → (∃ l, H' = H ++ l) ∧ (∀ x ∈ T, hget hp x.1 = some x.2) ∧
    ((∃ l, Hf = H' ++ l) → (∀ x ∈ Tf, x.1 ∈ Hf → x ∉ T) → (∀ x ∈ T, x ∈ Tf) → LendCs Tf Hf cs ys) := by
  intro shs
  induction shs with
  | nil =>
    intro cs ys p T H H' h hpp
    cases cs with
    | nil => unfold lendMs at h; cases h; exact ⟨⟨[], by simp⟩, by simp, fun _ _ _ => trivial⟩
    | cons => cases h
  | cons sh shs ih =>
    intro cs ys p T H H' h hpp
    cases cs with
    | nil => cases h
    | cons c cs =>
      unfold lendMs at h
      split at h
      · rename_i y p1 T1 H1 h1
        split at h
        · rename_i ys1 q T2 H2 h2
          cases h
          obtain ⟨⟨l1, a1⟩, a2, a3⟩ := lendM1_ok (Hf := Hf) (Tf := Tf) h1 (andL_app hpp).1
          obtain ⟨⟨l2, b1⟩, b2, b3⟩ := ih h2 (andL_app hpp).2
          refine ⟨⟨l1 ++ l2, by rw [b1, a1]; simp⟩, fun x hx => ?_, fun ⟨l, hl⟩ hap hs => ⟨a3 ⟨l2 ++ l, by rw [hl, b1]; simp⟩ (fun x hx hh hm => hap x hx hh (List.mem_append_left _ hm)) (fun x hx => hs x (List.mem_append_left _ hx)),
            b3 ⟨l, hl⟩ (fun x hx hh hm => hap x hx hh (List.mem_append_right _ hm)) (fun x hx => hs x (List.mem_append_right _ hx))⟩⟩
          rcases List.mem_append.1 hx with hx | hx
          · exact a2 x hx
          · exact b2 x hx
        · cases h
      · cases h
theorem lendMA_ok {sh : MA} {c y : AV} {p : List Prop} {H' : List Nat} (h : lendMA P hp H sh c = some (y, p, T, H')) (hp' : andL p) : (∃ l, H' = H ++ l) ∧ (∀ x ∈ T, hget hp x.1 = some x.2) ∧
    ((∃ l, Hf = H' ++ l) → (∀ x ∈ Tf, x.1 ∈ Hf → x ∉ T) → (∀ x ∈ T, x ∈ Tf) → LendA Tf Hf c y) := by
  unfold lendMA at h
  split at h
  · split at h
    · rename_i hl; cases h; exact lendM1_ok hl hp'
    · cases h
  · split at h
    · rename_i hl; cases h; exact lendMs_ok hl hp'
    · cases h
  · cases h
theorem lendMAs_ok : ∀ {shs : List MA} {cs ys : List AV} {p : List Prop} {T : List (Nat × AB)} {H H' : List Nat}, lendMAs P hp H shs cs = some (ys, p, T, H') → andL p → (∃ l, H' = H ++ l) ∧ (∀ x ∈ T, hget hp x.1 = some x.2) ∧
    ((∃ l, Hf = H' ++ l) → (∀ x ∈ Tf, x.1 ∈ Hf → x ∉ T) → (∀ x ∈ T, x ∈ Tf) → LendAs Tf Hf cs ys) := by
  intro shs
  induction shs with
  | nil =>
    intro cs ys p T H H' h hpp
    cases cs with
    | nil => unfold lendMAs at h; cases h; exact ⟨⟨[], by simp⟩, by simp, fun _ _ _ => trivial⟩
    | cons => cases h
  | cons sh shs ih =>
    intro cs ys p T H H' h hpp
    cases cs with
    | nil => cases h
    | cons c cs =>
      unfold lendMAs at h
      split at h
      · rename_i y p1 T1 H1 h1
        split at h
        · rename_i ys1 q T2 H2 h2
          cases h
          obtain ⟨⟨l1, a1⟩, a2, a3⟩ := lendMA_ok (Hf := Hf) (Tf := Tf) h1 (andL_app hpp).1
          obtain ⟨⟨l2, b1⟩, b2, b3⟩ := ih h2 (andL_app hpp).2
          refine ⟨⟨l1 ++ l2, by rw [b1, a1]; simp⟩, fun x hx => ?_, fun ⟨l, hl⟩ hap hs => ⟨a3 ⟨l2 ++ l, by rw [hl, b1]; simp⟩ (fun x hx hh hm => hap x hx hh (List.mem_append_left _ hm)) (fun x hx => hs x (List.mem_append_left _ hx)),
            b3 ⟨l, hl⟩ (fun x hx hh hm => hap x hx hh (List.mem_append_right _ hm)) (fun x hx => hs x (List.mem_append_right _ hx))⟩⟩
          rcases List.mem_append.1 hx with hx | hx
          · exact a2 x hx
          · exact b2 x hx
        · cases h
      · cases h
theorem thL_get : ∀ {H : List Nat}, ∀ x ∈ thL hp H, hget hp x.1 = some x.2 := by
  intro H
  induction H with
  | nil => intro x hx; cases hx
  | cons id H ih =>
    intro x hx
    unfold thL at hx
    split at hx
    · rcases List.mem_cons.1 hx with rfl | hx
      · assumption
      · exact ih x hx
    · exact ih x hx
theorem lendBs_ok : ∀ {l : List Nat}, rowsH hp l = true → (∀ x ∈ thL hp l, x ∈ T) → LendBs T H l (blkAt hp l) := by
  intro l
  induction l with
  | nil => intro _ _; trivial
  | cons id l ih =>
    intro h hT
    unfold rowsH at h
    split at h
    · rename_i pn e ls hg
      have e1 : thL hp (id :: l) = (id, .row pn e ls) :: thL hp l := by simp [thL, hg]
      rw [e1] at hT
      exact ⟨⟨.row pn e ls, .row pn e ls, hg, hT _ (by simp), rfl, rfl, fun h => h⟩, ih h fun x hx => hT x (List.mem_cons_of_mem _ hx)⟩
    · cases h
end
def mutRun (P : Program) (shs : List MA) (g : List AV → Hp → Option (List Prop × AV × Hp)) (hp : Hp) (nid : Nat) (xs : List AV) : Option (List Prop × AV × List (Nat × Option AB) × List (Nat × AB)) :=
  match lendMAs P hp [] shs xs with
  | some (ys, p, T, H) => match rowsH hp H, nodL H, apartH H T with
    | true, true, true => match g ys (blkAt hp H) with
      | some (q, v, hp1) => match Nat.ble H.length hp1.length, Nat.ble hp1.length (H.length + 8) with
        | true, true => some (p ++ q, renA (H ++ (List.range (hp1.length - H.length)).map (nid + ·)) v,
            backE (H ++ (List.range (hp1.length - H.length)).map (nid + ·)) H.length 0 (H ++ (List.range (hp1.length - H.length)).map (nid + ·)) hp1, T ++ thL hp H)
        | _, _ => none
      | none => none
    | _, _, _ => none
  | none => none
noncomputable def CE.mut {P : Program} (f : Nat) (shs : List MA) (g : List AV → Hp → Option (List Prop × AV × Hp)) (h : ∀ ys hp0 q v hp1, g ys hp0 = some (q, v, hp1) → andL q → FunSem P f hp0 ys hp1 v) : CE P where
  f := f
  run := mutRun P shs g
  ok := by
    intro hp nid xs p v E T hr hpp
    unfold mutRun at hr
    split at hr
    · rename_i ys p0 T0 H hl
      split at hr
      · rename_i hrows hnod hap
        split at hr
        · rename_i q v0 hp1 hg
          split at hr
          · rename_i hb1 hb2
            cases hr
            obtain ⟨_, h2, h3⟩ := lendMAs_ok (Hf := H) (Tf := T0 ++ thL hp H) hl (andL_app hpp).1
            have hap' := apartH_ok hap
            have hle := Nat.le_of_ble_eq_true hb1
            refine ⟨?_, fun x hx => ?_⟩
            · refine (h ys _ q v0 hp1 hg (andL_app hpp).2).call (H := H) (nodL_ok hnod) (lendBs_ok hrows fun x hx => List.mem_append_right _ hx) (h3 ⟨[], by simp⟩ (fun x _ hh hm => hap' x hm hh) (fun x hx => List.mem_append_left _ hx)) (by simp) (by simp) (by simp; omega) (Nat.le_of_ble_eq_true hb2)
            · rcases List.mem_append.1 hx with hx | hx
              · exact h2 x hx
              · exact thL_get x hx
          · cases hr
        · cases hr
      · cases hr
    · cases hr
end Go.Proofs.Ytekdfddodabfcaa
