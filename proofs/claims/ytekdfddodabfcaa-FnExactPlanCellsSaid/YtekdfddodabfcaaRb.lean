/- The engine, part J: stores into variables and rows. -/
import Derived.Test.YtekdfddodabfcaaRa
namespace Go.Proofs.Ytekdfddodabfcaa
open Go.RowKit
set_option linter.unusedVariables false
set_option linter.unusedSimpArgs false

section
variable {P : Program} {G G' : Gh} {On On' : Nat → Prop} {w w' : World} {B : Fr} {w0 : World} {sl : List AV} {hp hp' : Hp} {a : Act} {o : Oper} {nid : Nat}

theorem Rel.ext (h : Rel P B w0 G On ⟨sl, hp⟩ a w) (hh : ∀ id, hget hp' id = hget hp id) : Rel P B w0 G On ⟨sl, hp'⟩ a w :=
  ⟨h.bel, h.base, h.sl, fun id blk hb => h.hp id blk (by rw [← hh]; exact hb), h.own, fun id hn => h.dead id (by rw [← hh]; exact hn), h.dis, h.df, h.an⟩
theorem hget_hput2 (hp : Hp) (id : Nat) (x y : Option AB) (i : Nat) : hget (hput (hput hp id x) id y) i = hget (hput hp id y) i := by
  rw [hget_hput, hget_hput, hget_hput]; split <;> rfl

def putN : List CV → Nat → List CV → List CV
  | cs, _, [] => cs
  | cs, off, c :: r => putN (cs.set off c) (off + 1) r

theorem run_store1 {b off : Nat} {arr : Array Value} {t : Nat} (hh : w.heap[b]? = some (.cells arr t (0, 0))) (ho : off < arr.size) {v : Value} (hv : v.oneCell' = true) :
    (store ⟨b, off, none⟩ v).run P w = .ok () (w.setCell ⟨b, off, none⟩ v) := by
  rw [run_store P w _ v .plain hv, cell_of_row w b off arr t (0, 0) hh, Array.getElem?_eq_getElem ho]
  simp [World.frozen?, hh]

theorem run_stores {id t : Nat} : ∀ (vs : List Value) (cs' cs : List CV) (w : World) (hp : Hp) (base i : Nat), Rel P B w0 G On ⟨sl, hp⟩ a w → hget hp id = some (.var t cs) → base + i + vs.length ≤ cs.length → All2 (Cr P G On w) cs' vs →
    ∃ w', (storeCells ⟨(G id).b, base, none⟩ vs i).run P w = .ok () w' ∧ Rel P B w0 G On ⟨sl, hput hp id (some (.var t (putN cs (base + i) cs')))⟩ a w' := by
  intro vs
  induction vs with
  | nil =>
    intro cs' cs w hp base i hr hg hl hall
    cases hall
    exact ⟨w, by simp [storeCells], hr.ext fun j => by rw [hget_hput]; split <;> simp_all [putN]⟩
  | cons v vs ih =>
    intro cs' cs w hp base i hr hg hl hall
    cases hall with
    | cons h0 ht =>
      rename_i c cs'
      obtain ⟨_, hS, hnp, arr, hh, hc⟩ := hr.hp id _ hg
      have hlen : cs.length = arr.size := by rw [← Array.length_toList]; exact hc.len
      have hr1 := hr.setVar hg (base + i) h0
      have hs := setVar_stay hr hg (base + i) v
      simp only [List.length_cons] at hl
      obtain ⟨w', hrun, hr2⟩ := ih cs' (cs.set (base + i) c) _ _ base (i + 1) hr1 (hget_hput_same _ _ _) (by simp; omega) (ht.imp fun _ _ h => h.stay hs)
      refine ⟨w', ?_, hr2.ext fun j => ?_⟩
      · simp only [storeCells, Sem.run_bind, add_addr]
        rw [run_store1 hh (by omega) h0.one]
        exact hrun
      · rw [hget_hput2, ← Nat.add_assoc]; rfl

/-- A cell or a struct is stored into a variable. -/
def cellsOf : AV → Option (List CV)
  | .c x => some [x]
  | .ag xs => some xs
  | _ => none
theorem cellsOf_sound {x : AV} {y : Value} {cs : List CV} (hc : cellsOf x = some cs) (hv : Vr P G On w x y) : All2 (Cr P G On w) cs y.cells.toList := by
  cases x <;> simp only [cellsOf, reduceCtorEq, Option.some.injEq] at hc <;> subst hc
  · have h1 := Cr.one hv
    have : y.cells = #[y] := by cases y <;> simp_all [Value.cells, Value.oneCell']
    rw [this]; exact .cons hv .nil
  · obtain ⟨vs, rfl, hall⟩ := hv; exact hall
theorem op_storeV {x y : Operand} {t t' : TypeId} {id off : Nat} {av : AV} {cs cs' : List CV} (ho : o.op = .store t x y) (hc : cellsOf av = some cs') (hz : szT P t = cs'.length) (h0 : cs'.length ≠ 0) (hl : off + cs'.length ≤ cs.length) :
    OpSem P o [(x, .c (.pt id off)), (y, av)] [(id, .var t' cs)] nid .no [(id, some (.var t' (putN cs off cs')))] := by
  refine opsem_skip fun sl hp On B w0 G a w hrs hT hn hr => ?_
  have hg := hT (id, .var t' cs) (by simp)
  have e1 := ev_sound hr x; rw [rs1 hrs] at e1
  have e2 := ev_sound hr y; rw [rs2 hrs] at e2
  have hall := cellsOf_sound hc e2
  obtain ⟨hon, he⟩ := e1
  have hsz : (a.eval y).cells.size = cs'.length := by rw [← Array.length_toList]; exact hall.len.symm
  have hl2 : (a.eval y).cells.toList.length = cs'.length := by simpa using hsz
  obtain ⟨w', hrun, hr'⟩ := run_stores (a.eval y).cells.toList cs' cs w hp off 0 hr hg (by rw [hl2]; simpa using hl) hall
  refine ⟨w', G, ?_, ?_⟩
  · simp only [execOp, ho, he, Instr.storeAt, Instr.sureAddr, storeVar, Sem.run_bind, Sem.run_pure, Result.andThen_ok, run_sizeOf hz h0, hsz]
    simp [hrun]
  · exact (Rel.more hr' (fun _ h => .inl h))

/-- A scalar is stored into a row. -/
theorem Rel.setRow (h : Rel P B w0 G On ⟨sl, hp⟩ a w) {pn : Bool} {id e : Nat} {ls : List (List DV)} {cs : List DV} {i j : Nat} {u v : Value} (hg : hget hp id = some (.row pn e ls)) (hi : ls[i]? = some cs) (hj : cs[j]? = some (.s u)) (hv : sca v = true) :
    Stay G On w G On (w.setCell ⟨(G id).b, i * (G id).sz + j, none⟩ v) ∧ Rel P B w0 G On ⟨sl, hput hp id (some (.row pn e (ls.set i (cs.set j (.s v)))))⟩ a (w.setCell ⟨(G id).b, i * (G id).sz + j, none⟩ v) := by
  obtain ⟨ho, hsz, hm, hpin⟩ := h.hp id _ hg
  obtain ⟨_, hcase⟩ := hm.inv
  rcases hcase with ⟨_, rfl, _⟩ | ⟨hnl, arr, vals, F, h1, h2, h3, h4, h5, h6, h7, h8, h9, h10⟩
  · simp at hi
  have hne : ∀ i k, (G i).S k → i ≠ id → k ≠ (G id).b := fun i k hk e e' => e (h.dis i id k hk (e' ▸ h1))
  have hilt : i < ls.length := (List.getElem?_eq_some_iff.1 hi).1
  have hjlt : j < szT P e := by rw [← h8 i cs hi]; exact (List.getElem?_eq_some_iff.1 hj).1
  have hjcs : j < cs.length := (List.getElem?_eq_some_iff.1 hj).1
  have hs : Stay G On w G On (w.setCell ⟨(G id).b, i * (G id).sz + j, none⟩ v) := by
    refine ⟨fun _ h => h, fun k hk => ⟨⟨by simpa [World.setCell] using hk.1, hk.2⟩, Below.heap_setCell _ _ _ _ (fun e => hk.2 id (e ▸ h1))⟩, fun i _ => ⟨rfl, rfl, rfl, rfl, fun _ _ h => h⟩, fun q q1 q2 u' _ hp' hcl => ?_⟩
    by_cases e : q = id
    · subst e
      obtain ⟨_, cs', e', ls', hq1, hq2⟩ := (hpin q1 q2).1 hp'
      have hq2lt : q2 < szT P e := by rw [← h8 q1 cs' hq1]; rcases hq2 with h | h <;> exact (List.getElem?_eq_some_iff.1 h).1
      rw [← hcl]
      rw [cell_of_row _ _ _ (arr.setIfInBounds (i * (G q).sz + j) v) e (0, 0) (heap_setCell_same w _ _ v h4), cell_of_row w _ _ arr e (0, 0) h4, Array.getElem?_setIfInBounds, hsz]
      rw [if_neg]
      intro hq
      obtain ⟨rfl, rfl⟩ := idx_inj hjlt hq2lt hq
      rw [hi] at hq1; obtain rfl := Option.some.inj hq1
      rw [hj] at hq2; rcases hq2 with h | h <;> cases h
    · rw [World.cell?_of_block (w := w) (Below.heap_setCell w _ v _ (hne q _ (pin_own h hp').1 e))]; exact hcl
  have hcell : ∀ (i' : Nat) cs' (j' : Nat) d, (ls.set i (cs.set j (.s v)))[i']? = some cs' → cs'[j']? = some d →
      (i' = i ∧ j' = j ∧ d = .s v) ∨ (¬ (i' = i ∧ j' = j) ∧ ∃ cs0, ls[i']? = some cs0 ∧ cs0[j']? = some d) := by
    intro i' cs' j' d h1' h2'
    rw [List.getElem?_set] at h1'
    by_cases e : i = i'
    · subst e
      rw [if_pos rfl, if_pos hilt] at h1'
      obtain rfl := Option.some.inj h1'
      rw [List.getElem?_set] at h2'
      by_cases e' : j = j'
      · subst e'
        rw [if_pos rfl, if_pos hjcs] at h2'
        exact .inl ⟨rfl, rfl, (Option.some.inj h2').symm⟩
      · rw [if_neg e'] at h2'
        exact .inr ⟨fun h => e' h.2.symm, cs, hi, h2'⟩
    · rw [if_neg e] at h1'
      exact .inr ⟨fun h => e h.1.symm, cs', h1', h2'⟩
  have hlens : ∀ (i' : Nat) cs', (ls.set i (cs.set j (.s v)))[i']? = some cs' → cs'.length = szT P e := by
    intro i' cs' h1'
    rw [List.getElem?_set] at h1'
    by_cases e : i = i'
    · subst e
      rw [if_pos rfl, if_pos hilt] at h1'
      obtain rfl := Option.some.inj h1'
      rw [List.length_set]; exact h8 i cs hi
    · rw [if_neg e] at h1'; exact h8 i' cs' h1'
  refine ⟨hs, h.turn hs (.setCell (h.own id _ h1).1 v) (fun q x hk => ?_) (fun i k hk => by have := h.own i k hk; simpa [World.setCell] using this) (fun q hk => ?_) h.dis⟩
  · by_cases e' : q = id
    · subst e'
      rw [hget_hput_same] at hk
      obtain rfl := Option.some.inj hk
      refine ⟨ho, hsz, ?_, fun i' j' => ?_⟩
      · rw [hnl]
        have := M.l (P := P) (w := w.setCell ⟨(G q).b, i * (G q).sz + j, none⟩ v) (S := (G q).S) (e := e) (ls := ls.set i (cs.set j (.s v))) (b := (G q).b) (cap := (G q).cap) (arr := arr.setIfInBounds (i * (G q).sz + j) v)
          (vals := fun i' j' => if i' = i ∧ j' = j then v else vals i' j') (F := F) h1 h2 h3 (heap_setCell_same w _ _ v h4) (by simpa using h5) h6 (by simpa using h7) hlens
          (fun i' cs' j' d h1' h2' => by
            have hj'lt : j' < szT P e := by rw [← hlens i' cs' h1']; exact (List.getElem?_eq_some_iff.1 h2').1
            rw [Array.getElem?_setIfInBounds, hsz]
            rcases hcell i' cs' j' d h1' h2' with ⟨rfl, rfl, rfl⟩ | ⟨hn, cs0, h1'', h2''⟩
            · have := h9 i' cs j' _ hi hj
              have hlt := (Array.getElem?_eq_some_iff.1 this).1
              simp [hlt]
            · rw [if_neg (fun h => hn (by have := idx_inj hjlt hj'lt h; exact ⟨this.1.symm, this.2.symm⟩)), if_neg hn]
              exact h9 i' cs0 j' d h1'' h2'')
          (fun i' cs' j' d h1' h2' => by
            rcases hcell i' cs' j' d h1' h2' with ⟨rfl, rfl, rfl⟩ | ⟨hn, cs0, h1'', h2''⟩
            · simp only [and_self, if_true]; exact .s hv
            · simp only [hn, if_false]
              exact (h10 i' cs0 j' d h1'' h2'').move fun k hk => Below.heap_setCell _ _ _ _ (h2 i' j' k hk).2)
        rw [List.length_set] at this ⊢
        exact this
      · rw [hpin i' j']
        constructor
        · rintro ⟨h, cs', e1, l1, hh1, hh2⟩
          refine ⟨h, ?_⟩
          by_cases e2 : i = i'
          · subst e2
            rw [hi] at hh1; obtain rfl := Option.some.inj hh1
            refine ⟨cs.set j (.s v), e1, l1, by rw [List.getElem?_set, if_pos rfl, if_pos hilt], ?_⟩
            have : j ≠ j' := fun e => by subst e; rw [hj] at hh2; rcases hh2 with h | h <;> cases h
            simpa [List.getElem?_set, this] using hh2
          · exact ⟨cs', e1, l1, by rw [List.getElem?_set, if_neg e2]; exact hh1, hh2⟩
        · rintro ⟨h, cs', e1, l1, hh1, hh2⟩
          refine ⟨h, ?_⟩
          rcases hh2 with hh2 | hh2 <;> rcases hcell i' cs' j' _ hh1 hh2 with ⟨_, _, h⟩ | ⟨_, cs0, q1, q2⟩
          · cases h
          · exact ⟨cs0, e1, l1, q1, .inl q2⟩
          · cases h
          · exact ⟨cs0, e1, l1, q1, .inr q2⟩
    · rw [hget_hput_ne _ _ e'] at hk
      exact ⟨(h.hp q x hk).1, (h.hp q x hk).2.stay hs fun k hS' => Below.heap_setCell _ _ _ _ (hne q k hS' e')⟩
  · by_cases e : q = id
    · subst e; rw [hget_hput_same] at hk; cases hk
    · rw [hget_hput_ne _ _ e] at hk; exact h.dead q hk
end
end Go.Proofs.Ytekdfddodabfcaa
/- The engine, part K: cells of a row take values that may own memory. -/
namespace Go.Proofs.Ytekdfddodabfcaa
open Go.RowKit
set_option linter.unusedVariables false
set_option linter.unusedSimpArgs false

section
variable {P : Program} {G G' : Gh} {On On' : Nat → Prop} {w w' : World} {B : Fr} {w0 : World} {sl : List AV} {hp hp' : Hp} {a : Act} {o : Oper} {nid : Nat}

/-- Some of a list's elements, replaced. -/
def spl {α : Type} (cs : List α) (off : Nat) (ds : List α) : List α := cs.take off ++ ds ++ cs.drop (off + ds.length)
theorem spl_len {α : Type} {cs ds : List α} {off : Nat} (h : off + ds.length ≤ cs.length) : (spl cs off ds).length = cs.length := by simp [spl]; omega
theorem spl_get {α : Type} {cs ds : List α} {off : Nat} (h : off + ds.length ≤ cs.length) {j : Nat} {d : α} (hj : (spl cs off ds)[j]? = some d) :
    (off ≤ j ∧ j < off + ds.length ∧ ds[j - off]? = some d) ∨ (¬ (off ≤ j ∧ j < off + ds.length) ∧ cs[j]? = some d) := by
  unfold spl at hj
  rw [List.append_assoc] at hj
  by_cases h1 : j < off
  · rw [List.getElem?_append_left (by simp; omega), List.getElem?_take, if_pos h1] at hj
    exact .inr ⟨by omega, hj⟩
  · rw [List.getElem?_append_right (by simp; omega)] at hj
    simp only [List.length_take] at hj
    rw [Nat.min_eq_left (by omega)] at hj
    by_cases h2 : j < off + ds.length
    · rw [List.getElem?_append_left (by omega)] at hj
      exact .inl ⟨by omega, h2, hj⟩
    · rw [List.getElem?_append_right (by omega), List.getElem?_drop] at hj
      exact .inr ⟨by omega, by rw [← hj]; congr 1; omega⟩

/-- Some cells of an element, replaced in memory. -/
structure Spliced (w w' : World) (b e p : Nat) (arr : Array Value) (vs : List Value) : Prop where
  os : w'.os = w.os
  tape : w'.tape = w.tape
  output : w'.output = w.output
  size : w'.heap.size = w.heap.size
  other : ∀ k, k ≠ b → w'.heap[k]? = w.heap[k]?
  here : ∃ arr', w'.heap[b]? = some (.cells arr' e (0, 0)) ∧ arr'.size = arr.size ∧ (∀ q, ¬ (p ≤ q ∧ q < p + vs.length) → arr'[q]? = arr[q]?) ∧ ∀ (q : Nat) v, vs[q]? = some v → arr'[p + q]? = some v

theorem Rel.setRowM (h : Rel P B w0 G On ⟨sl, hp⟩ a w) {pn : Bool} {id e : Nat} {ls : List (List DV)} {cs ds : List DV} {i off : Nat} {vs : List Value} {T : Nat → Nat → Prop} (hg : hget hp id = some (.row pn e ls)) (hi : ls[i]? = some cs)
    (hvl : vs.length = ds.length) (hoff : off + ds.length ≤ cs.length)
    (hmv : ∀ (q : Nat) d v, ds[q]? = some d → vs[q]? = some v → M P w (T q) d v) (R : List Nat) (hidR : id ∉ R) (hT : ∀ q k, T q k → ∃ r, r ∈ R ∧ (G r).S k) (hTd : ∀ q q' k, T q k → T q' k → q = q')
    {arr : Array Value} (harr : w.heap[(G id).b]? = some (.cells arr e (0, 0))) (hw : Spliced w w' (G id).b e (i * szT P e + off) arr vs) :
    ∃ G', Stay G On w G' On w' ∧ (∀ q, (G' q).b = (G q).b ∧ (G' q).sz = (G q).sz) ∧
      Rel P B w0 G' On ⟨sl, hput (happly hp (drops R)) id (some (.row false e (ls.set i (spl cs off ds))))⟩ a w' := by
  obtain ⟨ho, hsz, hm, hpin⟩ := h.hp id _ hg
  obtain ⟨_, hcase⟩ := hm.inv
  rcases hcase with ⟨_, rfl, _⟩ | ⟨hnl, arr0, vals, F, h1, h2, h3, h4, h5, h6, h7, h8, h9, h10⟩
  · simp at hi
  obtain rfl : arr0 = arr := by rw [h4] at harr; injection harr with harr; injection harr
  have hne : ∀ i k, (G i).S k → i ≠ id → k ≠ (G id).b := fun i k hk e e' => e (h.dis i id k hk (e' ▸ h1))
  have hilt : i < ls.length := (List.getElem?_eq_some_iff.1 hi).1
  have hcl : cs.length = szT P e := h8 i cs hi
  let G' : Gh := fun q => if q = id then { G id with S := fun k => (G id).S k ∨ ∃ r, r ∈ R ∧ (G r).S k, pin := fun _ _ => False } else if q ∈ R then { G q with S := fun _ => False, pin := fun _ _ => False } else G q
  have gI : G' id = { G id with S := fun k => (G id).S k ∨ ∃ r, r ∈ R ∧ (G r).S k, pin := fun _ _ => False } := by simp [G']
  have gR : ∀ q, q ≠ id → q ∈ R → G' q = { G q with S := fun _ => False, pin := fun _ _ => False } := fun q a b => by simp [G', a, b]
  have gO : ∀ q, q ≠ id → q ∉ R → G' q = G q := fun q a b => by simp [G', a, b]
  have hgb : ∀ q, (G' q).b = (G q).b ∧ (G' q).nl = (G q).nl ∧ (G' q).cap = (G q).cap ∧ (G' q).sz = (G q).sz ∧ (∀ i j, (G' q).pin i j → (G q).pin i j ∧ q ≠ id ∧ q ∉ R) := by
    intro q
    by_cases e : q = id
    · subst e; rw [gI]; exact ⟨rfl, rfl, rfl, rfl, fun _ _ h => h.elim⟩
    · by_cases hR : q ∈ R
      · rw [gR q e hR]; exact ⟨rfl, rfl, rfl, rfl, fun _ _ h => h.elim⟩
      · rw [gO q e hR]; exact ⟨rfl, rfl, rfl, rfl, fun _ _ h => ⟨h, e, hR⟩⟩
  have hSsub : ∀ q k, (G' q).S k → ∃ q', (G q').S k ∧ ((q' = q ∧ q ∉ R) ∨ (q = id ∧ q' ∈ R)) := by
    intro q k hk
    by_cases e : q = id
    · subst e; rw [gI] at hk
      rcases hk with hk | ⟨r, hr, hk⟩
      · exact ⟨q, hk, .inl ⟨rfl, hidR⟩⟩
      · exact ⟨r, hk, .inr ⟨rfl, hr⟩⟩
    · by_cases hR : q ∈ R
      · rw [gR q e hR] at hk; exact hk.elim
      · rw [gO q e hR] at hk; exact ⟨q, hk, .inl ⟨rfl, hR⟩⟩
  have hs : Stay G On w G' On w' := by
    refine ⟨fun _ h => h, fun k hk => ⟨⟨by rw [hw.size]; exact hk.1, fun q hq => ?_⟩, hw.other _ (fun e => hk.2 id (e ▸ h1))⟩, fun q _ => ⟨(hgb q).1, (hgb q).2.1, (hgb q).2.2.1, (hgb q).2.2.2.1, fun i j h => ((hgb q).2.2.2.2 i j h).1⟩, fun q q1 q2 u' _ hp' hcl => ?_⟩
    · obtain ⟨q', hq', _⟩ := hSsub q k hq; exact hk.2 q' hq'
    · obtain ⟨hp1, hq1, _⟩ := (hgb q).2.2.2.2 q1 q2 hp'
      rw [World.cell?_of_block (w := w) (hw.other _ (hne q _ (pin_own h hp1).1 hq1))]; exact hcl
  have hcell : ∀ (i' : Nat) cs' (j' : Nat) d', (ls.set i (spl cs off ds))[i']? = some cs' → cs'[j']? = some d' →
      (i' = i ∧ off ≤ j' ∧ j' < off + ds.length ∧ ds[j' - off]? = some d') ∨ (¬ (i' = i ∧ off ≤ j' ∧ j' < off + ds.length) ∧ ∃ cs0, ls[i']? = some cs0 ∧ cs0[j']? = some d') := by
    intro i' cs' j' d' h1' h2'
    rw [List.getElem?_set] at h1'
    by_cases e : i = i'
    · subst e
      rw [if_pos rfl, if_pos hilt] at h1'
      obtain rfl := Option.some.inj h1'
      rcases spl_get hoff h2' with ⟨a, b, c⟩ | ⟨a, b⟩
      · exact .inl ⟨rfl, a, b, c⟩
      · exact .inr ⟨fun h => a h.2, cs, hi, b⟩
    · rw [if_neg e] at h1'
      exact .inr ⟨fun h => e h.1.symm, cs', h1', h2'⟩
  have hlens : ∀ (i' : Nat) cs', (ls.set i (spl cs off ds))[i']? = some cs' → cs'.length = szT P e := by
    intro i' cs' h1'
    rw [List.getElem?_set] at h1'
    by_cases e : i = i'
    · subst e
      rw [if_pos rfl, if_pos hilt] at h1'
      obtain rfl := Option.some.inj h1'
      rw [spl_len hoff]; exact h8 i cs hi
    · rw [if_neg e] at h1'; exact h8 i' cs' h1'
  have hhget : ∀ q, hget (hput (happly hp (drops R)) id (some (.row false e (ls.set i (spl cs off ds))))) q = if q = id then some (.row false e (ls.set i (spl cs off ds))) else if q ∈ R then none else hget hp q := by
    intro q; rw [hget_hput, hget_drops]
  have hTb : ∀ q k, T q k → k ≠ (G id).b := fun q k hk e => by
    obtain ⟨r, hr, hS⟩ := hT q k hk
    exact hidR (h.dis r id k hS (e ▸ h1) ▸ hr)
  have hTF : ∀ q i j k, F i j k → ¬ T q k := fun q i j k hF hk => by
    obtain ⟨r, hr, hS⟩ := hT q k hk
    exact hidR (h.dis r id k hS (h2 i j k hF).1 ▸ hr)
  obtain ⟨arr', ha1, ha2, ha3, ha4⟩ := hw.here
  have hbel : Kept B.keep w w' := ⟨hw.os, hw.tape, hw.output, Nat.le_of_eq hw.size.symm, fun k hk => hw.other k (fun e => (h.own id _ h1).1 (e ▸ hk))⟩
  refine ⟨G', hs, fun q => ⟨(hgb q).1, (hgb q).2.2.2.1⟩, h.turn hs hbel (fun q x hk => ?_) (fun q k hk => ?_) (fun q hk => ?_) (fun q q' k a b => ?_)⟩
  · rw [hhget] at hk
    by_cases e' : q = id
    · subst e'
      rw [if_pos rfl] at hk
      obtain rfl := Option.some.inj hk
      rw [gI]
      refine ⟨ho, hsz, ?_, fun i' j' => by simp⟩
      simp only [hnl]
      have := M.l (P := P) (w := w') (S := fun k => (G q).S k ∨ ∃ r, r ∈ R ∧ (G r).S k) (e := e) (ls := ls.set i (spl cs off ds)) (b := (G q).b) (cap := (G q).cap) (arr := arr')
        (vals := fun i' j' => if i' = i ∧ off ≤ j' ∧ j' < off + ds.length then vs.getD (j' - off) undef else vals i' j') (F := fun i' j' => if i' = i ∧ off ≤ j' ∧ j' < off + ds.length then T (j' - off) else F i' j') (.inl h1)
        (fun i' j' k hk => by
          by_cases hc : i' = i ∧ off ≤ j' ∧ j' < off + ds.length
          · simp only [hc, and_self, if_true] at hk; exact ⟨.inr (hT _ k hk), hTb _ k hk⟩
          · simp only [hc, if_false] at hk; exact ⟨.inl (h2 _ _ _ hk).1, (h2 _ _ _ hk).2⟩)
        (fun i1 j1 i2 j2 k a b => by
          by_cases c1 : i1 = i ∧ off ≤ j1 ∧ j1 < off + ds.length <;> by_cases c2 : i2 = i ∧ off ≤ j2 ∧ j2 < off + ds.length <;> simp only [c1, c2, and_self, if_true, if_false] at a b
          · have := hTd _ _ _ a b; exact ⟨by omega, by omega⟩
          · exact absurd a (hTF _ _ _ _ b)
          · exact absurd b (hTF _ _ _ _ a)
          · exact h3 _ _ _ _ _ a b)
        ha1 (by simpa using h5) h6 (by rw [ha2]; exact h7) hlens
        (fun i' cs' j' d' h1' h2' => by
          have hj'lt : j' < szT P e := by rw [← hlens i' cs' h1']; exact (List.getElem?_eq_some_iff.1 h2').1
          rcases hcell i' cs' j' d' h1' h2' with ⟨rfl, c1, c2, c3⟩ | ⟨hn, cs0, h1'', h2''⟩
          · have hlt : j' - off < vs.length := by omega
            have := ha4 (j' - off) vs[j' - off] (List.getElem?_eq_getElem hlt)
            rw [show i' * szT P e + off + (j' - off) = i' * szT P e + j' by omega] at this
            rw [this, if_pos ⟨rfl, c1, c2⟩]
            simp [List.getD, hlt]
          · rw [if_neg hn, ha3 _ (fun hc => hn ?_)]
            · exact h9 i' cs0 j' d' h1'' h2''
            · rw [hvl] at hc
              have : i' * szT P e + j' = i * szT P e + (i' * szT P e + j' - i * szT P e) := by omega
              have := idx_inj hj'lt (by omega) this
              exact ⟨this.1, by omega, by omega⟩)
        (fun i' cs' j' d' h1' h2' => by
          rcases hcell i' cs' j' d' h1' h2' with ⟨rfl, c1, c2, c3⟩ | ⟨hn, cs0, h1'', h2''⟩
          · have hlt : j' - off < vs.length := by omega
            simp only [c1, c2, and_self, if_true]
            have := hmv (j' - off) d' vs[j' - off] c3 (List.getElem?_eq_getElem hlt)
            rw [show vs.getD (j' - off) undef = vs[j' - off] by simp [List.getD, hlt]]
            exact this.move fun k hk => hw.other k (hTb _ k hk)
          · simp only [hn, if_false]
            exact (h10 i' cs0 j' d' h1'' h2'').move fun k hk => hw.other k (h2 i' j' k hk).2)
      rw [List.length_set] at this ⊢
      exact this
    · rw [if_neg e'] at hk
      by_cases hR : q ∈ R
      · rw [if_pos hR] at hk; cases hk
      · rw [if_neg hR] at hk
        rw [gO q e' hR]
        exact ⟨(h.hp q x hk).1, (h.hp q x hk).2.stay hs fun k hS' => hw.other _ (hne q k hS' e')⟩
  · obtain ⟨q', hq', _⟩ := hSsub q k hk
    have := h.own q' k hq'; rw [hw.size]; exact this
  · rw [hhget] at hk
    by_cases e' : q = id
    · subst e'; rw [if_pos rfl] at hk; cases hk
    · rw [if_neg e'] at hk
      by_cases hR : q ∈ R
      · rw [gR q e' hR]; exact ⟨fun _ h => h, fun _ _ h => h⟩
      · rw [if_neg hR] at hk; rw [gO q e' hR]; exact h.dead q hk
  · obtain ⟨q1, hq1, c1⟩ := hSsub q k a
    obtain ⟨q2, hq2, c2⟩ := hSsub q' k b
    have := h.dis q1 q2 k hq1 hq2
    rcases c1 with ⟨rfl, n1⟩ | ⟨rfl, n1⟩ <;> rcases c2 with ⟨rfl, n2⟩ | ⟨rfl, n2⟩
    · exact this
    · exact absurd (this ▸ n2) n1
    · exact absurd (this ▸ n1) n2
    · rfl
end
end Go.Proofs.Ytekdfddodabfcaa
/- The engine, part L: what a value gives away; stores into rows; addresses of elements; slices of slices. -/
namespace Go.Proofs.Ytekdfddodabfcaa
open Go.RowKit
set_option linter.unusedVariables false
set_option linter.unusedSimpArgs false

/-- The data that a cell gives away, and the rows that go with it. -/
def give (hp : Hp) (et : Nat) : CV → Option (DV × List Nat)
  | .v (.slice none 0 0) => some (.l et [], [])
  | .v (.bool b) => some (.s (.bool b), [])
  | .v (.int k n) => some (.s (.int k n), [])
  | .v (.string s) => some (.s (.string s), [])
  | .sl id n => match hget hp id with
    | some (.row _ e ls) => if ls.length = n then some (.l e ls, [id]) else none
    | _ => none
  | .sb id 0 n => match hget hp id with
    | some (.row _ e ls) => if n ≤ ls.length then some (.l e (ls.take n), [id]) else none
    | _ => none
  | _ => none
def gives (hp : Hp) : List Nat → List CV → Option (List DV × List Nat)
  | _, [] => some ([], [])
  | es, c :: cs => match give hp (es.headD 0) c, gives hp es.tail cs with
    | some (d, r), some (ds, rs) => some (d :: ds, r ++ rs)
    | _, _ => none
/-- The elements' types of the slices among a type's cells (0 elsewhere). -/
def etsT (P : Program) (t : TypeId) : List Nat :=
  let f (u : TypeId) : Nat := match P.underlying u with
    | some (.slice e) => e
    | _ => 0
  match P.underlying t with
  | some (.struct fs) => fs.toList.map fun x => f x.type
  | _ => [f t]
def looksAll (hp : Hp) (cs : List CV) : List (Nat × AB) := cs.flatMap (looks hp)

section
variable {P : Program} {G G' : Gh} {On On' : Nat → Prop} {w w' : World} {B : Fr} {w0 : World} {sl : List AV} {hp hp' : Hp} {a : Act} {o : Oper} {nid : Nat}

theorem M.take {S : Nat → Prop} {e : Nat} {ls : List (List DV)} {b cap cap' n : Nat} {nl : Bool} (h : M P w S (.l e ls) (.slice (hd b nl) ls.length cap)) (hn : n ≤ ls.length) (hn' : n ≤ cap') (hc : cap' ≤ cap) :
    M P w S (.l e (ls.take n)) (.slice (hd b nl) n cap') := by
  obtain ⟨_, hcase⟩ := h.inv
  rcases hcase with ⟨rfl, rfl, rfl⟩ | ⟨rfl, arr, vals, F, h1, h2, h3, h4, h5, h6, h7, h8, h9, h10⟩
  · obtain rfl : cap' = 0 := by omega
    obtain rfl : n = 0 := by omega
    exact .nil
  · have hl : (ls.take n).length = n := by simp; omega
    have := M.l (P := P) (w := w) (S := S) (e := e) (ls := ls.take n) (b := b) (cap := cap') (arr := arr) (vals := vals) (F := F) h1 h2 h3 h4 (by omega) (by omega) (Nat.le_trans (Nat.mul_le_mul_right _ hc) h7)
      (fun i cs h => h8 i cs (by rw [List.getElem?_take] at h; split at h; exact h; cases h))
      (fun i cs j d h => h9 i cs j d (by rw [List.getElem?_take] at h; split at h; exact h; cases h))
      (fun i cs j d h => h10 i cs j d (by rw [List.getElem?_take] at h; split at h; exact h; cases h))
    rw [hl] at this
    exact this

theorem give_sound (h : Rel P B w0 G On ⟨sl, hp⟩ a w) {hp0 : Hp} {et : Nat} {c : CV} {y : Value} {d : DV} {R : List Nat} (hv : Cr P G On w c y) (hg : give hp0 et c = some (d, R)) (hT : ∀ x ∈ looks hp0 c, hget hp x.1 = some x.2) :
    M P w (fun k => ∃ r, r ∈ R ∧ (G r).S k) d y ∧ R.Nodup ∧ ∀ r ∈ R, hget hp r ≠ none := by
  unfold give at hg
  split at hg
  · obtain ⟨rfl, _⟩ := hv; injection hg with hg; injection hg with h1 h2; subst h1 h2; exact ⟨.nil, by simp, by simp⟩
  · obtain ⟨rfl, _⟩ := hv; injection hg with hg; injection hg with h1 h2; subst h1 h2; exact ⟨.s rfl, by simp, by simp⟩
  · obtain ⟨rfl, _⟩ := hv; injection hg with hg; injection hg with h1 h2; subst h1 h2; exact ⟨.s rfl, by simp, by simp⟩
  · obtain ⟨rfl, _⟩ := hv; injection hg with hg; injection hg with h1 h2; subst h1 h2; exact ⟨.s rfl, by simp, by simp⟩
  · rename_i id n
    split at hg
    · rename_i pn e ls hgl
      split at hg
      · rename_i hn
        injection hg with hg; injection hg with h1 h2; subst h1 h2
        have hT' := hT (id, .row pn e ls) (by simp [looks, hgl])
        obtain ⟨_, rfl⟩ := hv
        obtain ⟨_, _, hm, _⟩ := h.hp id _ hT'
        rw [hn] at hm
        exact ⟨hm.mono fun k hk => ⟨id, by simp, hk⟩, by simp, by simp; simp [hT']⟩
      · cases hg
    · cases hg
  · rename_i id n
    split at hg
    · rename_i pn e ls hgl
      split at hg
      · rename_i hn
        injection hg with hg; injection hg with h1 h2; subst h1 h2
        have hT' := hT (id, .row pn e ls) (by simp [looks, hgl])
        obtain ⟨_, ad, cap, rfl, h1, h2, h3, h4, _⟩ := hv
        obtain ⟨_, _, hm, _⟩ := h.hp id _ hT'
        rw [h3 rfl]
        exact ⟨(hm.take hn h1 (by omega)).mono fun k hk => ⟨id, by simp, hk⟩, by simp, by simp; simp [hT']⟩
      · cases hg
    · cases hg
  · cases hg

theorem gives_sound (h : Rel P B w0 G On ⟨sl, hp⟩ a w) {hp0 : Hp} : ∀ {es : List Nat} {cs : List CV} {ys : List Value} {ds : List DV} {R : List Nat}, All2 (Cr P G On w) cs ys → gives hp0 es cs = some (ds, R) → R.Nodup → (∀ x ∈ looksAll hp0 cs, hget hp x.1 = some x.2) →
    ds.length = ys.length ∧ ∃ T : Nat → Nat → Prop, (∀ (q : Nat) d v, ds[q]? = some d → ys[q]? = some v → M P w (T q) d v) ∧ (∀ q k, T q k → ∃ r, r ∈ R ∧ (G r).S k) ∧ (∀ q q' k, T q k → T q' k → q = q') := by
  intro es cs ys ds R hall
  induction hall generalizing es ds R with
  | nil =>
    intro hg _ _
    simp only [gives, Option.some.injEq, Prod.mk.injEq] at hg
    obtain ⟨rfl, rfl⟩ := hg
    exact ⟨rfl, fun _ _ => False, by simp, fun _ _ h => h.elim, fun _ _ _ h => h.elim⟩
  | @cons c y cs ys h0 ht ih =>
    intro hg hnd hT
    simp only [gives] at hg
    split at hg
    · rename_i d r ds' rs h1 h2
      simp only [Option.some.injEq, Prod.mk.injEq] at hg
      obtain ⟨rfl, rfl⟩ := hg
      obtain ⟨hm, _⟩ := give_sound h h0 h1 (fun x hx => hT x (by simp [looksAll, hx]))
      have hnd' := List.nodup_append.1 hnd
      obtain ⟨hlen, T, t1, t2, t3⟩ := ih h2 hnd'.2.1 (fun x hx => hT x (by simp only [looksAll, List.flatMap_cons, List.mem_append]; exact .inr hx))
      refine ⟨by simp [hlen], fun q => match q with | 0 => fun k => ∃ x, x ∈ r ∧ (G x).S k | q + 1 => T q, fun q d v hd hv => ?_, fun q k hk => ?_, fun q q' k hk hk' => ?_⟩
      · cases q with
        | zero => simp at hd hv; subst hd hv; exact hm
        | succ q => simp at hd hv; exact t1 q d v hd hv
      · cases q with
        | zero => obtain ⟨x, hx, hs⟩ := hk; exact ⟨x, by simp [hx], hs⟩
        | succ q => obtain ⟨x, hx, hs⟩ := t2 q k hk; exact ⟨x, by simp [hx], hs⟩
      · cases q with
        | zero => cases q' with
          | zero => rfl
          | succ q' =>
            obtain ⟨x, hx, hs⟩ := hk; obtain ⟨x', hx', hs'⟩ := t2 q' k hk'
            exact absurd (h.dis x x' k hs hs') (hnd'.2.2 x hx x' hx')
        | succ q => cases q' with
          | zero =>
            obtain ⟨x, hx, hs⟩ := hk'; obtain ⟨x', hx', hs'⟩ := t2 q k hk
            exact absurd (h.dis x x' k hs hs') (hnd'.2.2 x hx x' hx')
          | succ q' => rw [t3 q q' k hk hk']
    · cases hg

/-- Stores, one behind the other, into a row's block. -/
theorem run_storesAt {b e : Nat} : ∀ (vs : List Value) (arr : Array Value) (w : World) (base i : Nat), w.heap[b]? = some (.cells arr e (0, 0)) → base + i + vs.length ≤ arr.size → (∀ v ∈ vs, v.oneCell' = true) →
    ∃ w', (storeCells ⟨b, base, none⟩ vs i).run P w = .ok () w' ∧ Spliced w w' b e (base + i) arr vs := by
  intro vs
  induction vs with
  | nil => intro arr w base i hh _ _; exact ⟨w, by simp [storeCells], rfl, rfl, rfl, rfl, fun _ _ => rfl, arr, hh, rfl, fun _ _ => rfl, by simp⟩
  | cons v vs ih =>
    intro arr w base i hh hl hone
    simp only [List.length_cons] at hl
    have hh1 := heap_setCell_same w b (base + i) v hh
    obtain ⟨w', hrun, hs⟩ := ih (arr.setIfInBounds (base + i) v) (w.setCell ⟨b, base + i, none⟩ v) base (i + 1) hh1 (by simp; omega) (fun v hv => hone v (by simp [hv]))
    refine ⟨w', ?_, ?_⟩
    · simp only [storeCells, Sem.run_bind, add_addr]
      rw [run_store1 hh (by omega) (hone v (by simp))]
      exact hrun
    · obtain ⟨arr', a1, a2, a3, a4⟩ := hs.here
      refine ⟨hs.os, hs.tape, hs.output, hs.size.trans (by simp [World.setCell]), fun k hk => (hs.other k hk).trans (Below.heap_setCell w _ v k hk), arr', a1, by rw [a2]; simp, fun q hq => ?_, fun q u hu => ?_⟩
      · simp only [List.length_cons] at hq
        rw [a3 q (by omega), Array.getElem?_setIfInBounds, if_neg (by omega)]
      · cases q with
        | zero =>
          simp at hu; subst hu
          rw [a3 _ (by omega), Array.getElem?_setIfInBounds, if_pos (by omega), if_pos (by omega)]
        | succ q => simp at hu; have := a4 q u hu; rwa [show base + (i + 1) + q = base + i + (q + 1) by omega] at this

/-- A value is stored into an element of a row. -/
theorem op_storeR {x y : Operand} {t : TypeId} {pn : Bool} {id e i off : Nat} {ls : List (List DV)} {cs ds : List DV} {av : AV} {cs' : List CV} {R : List Nat} (ho : o.op = .store t x y) (hg0 : hget hp id = some (.row pn e ls)) (hi : ls[i]? = some cs)
    (hc : cellsOf av = some cs') (hz : szT P t = cs'.length) (h0 : cs'.length ≠ 0) (hgv : gives hp (etsT P t) cs' = some (ds, R)) (hnd : R.Nodup) (hid : id ∉ R) (hl : off + ds.length ≤ cs.length) :
    OpSem P o [(x, .c (.rp id i off)), (y, av)] ((id, .row pn e ls) :: looksAll hp cs') nid .no (drops R ++ [(id, some (.row false e (ls.set i (spl cs off ds))))]) := by
  refine opsem_skip fun sl hp' On B w0 G a w hrs hT hn hr => ?_
  have hg := hT (id, .row pn e ls) (by simp)
  have e1 := ev_sound hr x; rw [rs1 hrs] at e1
  have e2 := ev_sound hr y; rw [rs2 hrs] at e2
  have hall := cellsOf_sound hc e2
  obtain ⟨hon, he⟩ := e1
  have hsz : (a.eval y).cells.size = cs'.length := by rw [← Array.length_toList]; exact hall.len.symm
  obtain ⟨hlen, T, t1, t2, t3⟩ := gives_sound hr hall hgv hnd (fun x hx => hT x (by simp [hx]))
  have hvl : (a.eval y).cells.toList.length = ds.length := hlen.symm
  obtain ⟨_, arr, hh, hcl, hsz', _, hcell⟩ := row_cells (hr.hp id _ hg).2 hi
  have hone : ∀ v ∈ (a.eval y).cells.toList, v.oneCell' = true := by
    intro v hv
    obtain ⟨q, hq⟩ := List.getElem?_of_mem hv
    obtain ⟨c, _, hcr⟩ := hall.get' q v hq
    exact hcr.one
  have hbound : i * szT P e + off + 0 + (a.eval y).cells.toList.length ≤ arr.size := by
    have hlast : cs.length - 1 < cs.length := by
      have : cs'.length ≤ cs.length := by rw [← hall.len] at hvl; omega
      omega
    obtain ⟨v, S, hv, _⟩ := hcell (cs.length - 1) _ (List.getElem?_eq_getElem hlast)
    have := (Array.getElem?_eq_some_iff.1 hv).1
    rw [hvl]; omega
  obtain ⟨w', hrun, hspl⟩ := run_storesAt (P := P) (a.eval y).cells.toList arr w (i * szT P e + off) 0 hh hbound hone
  obtain ⟨G', _, _, hr'⟩ := hr.setRowM hg hi hvl hl t1 R hid t2 t3 hh hspl
  refine ⟨w', G', ?_, ?_⟩
  · simp only [execOp, ho, he, Instr.storeAt, Instr.sureAddr, storeVar, Sem.run_bind, Sem.run_pure, Result.andThen_ok, run_sizeOf hz h0, hsz, hsz']
    simp [hrun]
  · rw [happly_append]
    exact Rel.more hr' (fun _ h => .inl h)
/-- A scalar is stored into an element of a row: what is told of the row's slices stays. -/
theorem op_storeR1 {x y : Operand} {t : TypeId} {pn : Bool} {id e i off : Nat} {ls : List (List DV)} {cs : List DV} {u v : Value} (ho : o.op = .store t x y) (hi : ls[i]? = some cs) (hj : cs[off]? = some (.s u)) (hv : sca v = true) (hz : szT P t = 1) :
    OpSem P o [(x, .c (.rp id i off)), (y, .c (.v v))] [(id, .row pn e ls)] nid .no [(id, some (.row pn e (ls.set i (cs.set off (.s v)))))] := by
  refine opsem_skip fun sl hp' On B w0 G a w hrs hT hn hr => ?_
  have hg := hT (id, .row pn e ls) (by simp)
  have e1 := ev_sound hr x; rw [rs1 hrs] at e1
  have e2 := ev_sound hr y; rw [rs2 hrs] at e2
  obtain ⟨hon, he⟩ := e1
  obtain ⟨_, arr, hh, hcl, hsz', _, hcell⟩ := row_cells (hr.hp id _ hg).2 hi
  obtain ⟨u', S, hu, _⟩ := hcell off _ hj
  have hlt := (Array.getElem?_eq_some_iff.1 hu).1
  refine ⟨_, G, ?_, Rel.more (hr.setRow hg hi hj hv).2 (fun _ h => .inl h)⟩
  have hcells : (a.eval y).cells = #[v] := by
    rw [vr_v e2]; cases v <;> simp_all [sca, Value.cells]
  simp only [execOp, ho, he, Instr.storeAt, Instr.sureAddr, storeVar, Sem.run_bind, Sem.run_pure, Result.andThen_ok, run_sizeOf hz (by omega), hcells, hsz']
  simp [storeCells, Addr.add_zero', run_store1 hh hlt (one_of_sca hv)]
end
end Go.Proofs.Ytekdfddodabfcaa
/- The engine, part M: addresses of elements, slices of slices, structs and slices that are built, appends. -/
namespace Go.Proofs.Ytekdfddodabfcaa
open Go.RowKit
set_option linter.unusedVariables false
set_option linter.unusedSimpArgs false

/-- The address of element i of a slice. -/
def elemAt (P : Program) (hp : Hp) (E : Nat) (i : Nat) : CV → Option CV
  | .ro _ ls => match ls[i]? with
    | some cs => if cs.length = szT P E then some (.tp cs 0) else none
    | none => none
  | .sl id n => match hget hp id with
    | some (.row _ e ls) => if n = ls.length ∧ i < n ∧ szT P e = szT P E then some (.rp id i 0) else none
    | _ => none
  | .sb id lo n => match hget hp id with
    | some (.row _ e ls) => if lo + n ≤ ls.length ∧ i < n ∧ szT P e = szT P E then some (.rp id (lo + i) 0) else none
    | _ => none
  | _ => none

section
variable {P : Program} {G G' : Gh} {On On' : Nat → Prop} {w w' : World} {B : Fr} {w0 : World} {sl : List AV} {hp hp' : Hp} {a : Act} {o : Oper} {nid : Nat}

theorem run_indexAt {t E : TypeId} {ad : Addr} {n cap : Nat} {k : IntKind} {i : Int} (ht : P.underlying t = some (.slice E)) (hz : szT P E ≠ 0) (h0 : 0 ≤ i) (h1 : i < n) (w : World) :
    (Instr.indexAt t (.slice (some ad) n cap) (.int k i)).run P w = .ok (.pointer (some (ad.add (i.toNat * szT P E)))) w := by
  simp only [Instr.indexAt, Sem.run_bind, asIntOf, Sem.run_pure, Result.andThen_ok, run_underlying ht]
  simp [h0, h1, run_sizeOf rfl hz]

theorem op_indexAddr {x y : Operand} {t E : TypeId} {c d : CV} {k : IntKind} {i : Int} (ho : o.op = .indexAddr t x y) (ht : P.underlying t = some (.slice E)) (hz : szT P E ≠ 0) (h0 : 0 ≤ i) (he : elemAt P hp E i.toNat c = some d) :
    OpSem P o [(x, .c c), (y, .c (.v (.int k i)))] (looks hp c) nid (.c d) [] := by
  refine opsem_val fun sl hp' On B w0 G a w hrs hT hr => ?_
  have e1 := ev_sound hr x; rw [rs1 hrs] at e1
  have e2 := ev_sound hr y; rw [rs2 hrs] at e2
  cases c with
  | ro e ls =>
    simp only [elemAt] at he
    split at he
    · rename_i cs hcs
      split at he
      · rename_i hlen
        injection he with he; subst he
        generalize hv : a.eval x = v at e1
        have hcs' := (List.getElem?_eq_some_iff.1 hcs).1
        cases e1 with
        | nil => simp at hcs
        | @l _ _ b q cap arr tt fz vals h1 h2 h3 h4 h5 h6 h7 =>
          refine ⟨.pointer (some ⟨b, q + i.toNat * szT P E, none⟩), ?_, b, q + i.toNat * szT P E, rfl, h1, arr, tt, fz, h2, fun j d hd => ⟨vals i.toNat j, ?_, h7 _ cs j d hcs hd⟩⟩
          · simp only [execOp, ho, vr_v e2, hv, Sem.run_bind]
            rw [run_indexAt ht hz h0 (by omega), add_addr]; rfl
          · rw [← hlen, h5 _ cs hcs]; exact h6 _ cs j d hcs hd
      · cases he
    · cases he
  | sl id n =>
    simp only [elemAt] at he
    split at he
    · rename_i pn e ls hg
      split at he
      · rename_i hc
        injection he with he; subst he
        obtain ⟨hn, hi, hsz⟩ := hc
        have hg' := hT (id, .row pn e ls) (by simp [looks, hg])
        obtain ⟨hon, hv⟩ := e1
        have hbk := (hr.hp id _ hg').2
        obtain ⟨hnl, arr, hh, hcl, hsz', _, _⟩ := row_cells hbk (List.getElem?_eq_getElem (show i.toNat < ls.length by omega))
        refine ⟨.pointer (some ⟨(G id).b, i.toNat * szT P E, none⟩), ?_, hon, by rw [hsz', hsz]; rfl⟩
        simp only [execOp, ho, vr_v e2, hv, hnl, hd, Bool.false_eq_true, if_false, Sem.run_bind]
        rw [run_indexAt ht hz h0 (by omega), add_addr, Nat.zero_add]; rfl
      · cases he
    · cases he
  | sb id lo n =>
    simp only [elemAt] at he
    split at he
    · rename_i pn e ls hg
      split at he
      · rename_i hc
        injection he with he; subst he
        obtain ⟨hn, hi, hsz⟩ := hc
        have hg' := hT (id, .row pn e ls) (by simp [looks, hg])
        obtain ⟨hon, ad, cap, hv, _, _, _, had, _⟩ := e1
        have hbk := (hr.hp id _ hg').2
        obtain ⟨hnl, arr, hh, hcl, hsz', _, _⟩ := row_cells hbk (List.getElem?_eq_getElem (show i.toNat < ls.length by omega))
        refine ⟨.pointer (some ⟨(G id).b, lo * szT P E + i.toNat * szT P E, none⟩), ?_, hon, by rw [hsz', hsz, Nat.add_mul]; rfl⟩
        simp only [execOp, ho, vr_v e2, hv, had (by omega), Sem.run_bind]
        rw [run_indexAt ht hz h0 (by omega), add_addr, hsz', hsz]; rfl
      · cases he
    · cases he
  | _ => simp [elemAt] at he

/-- The bounds of a slice expression. -/
def bnd (dflt : Int) : Option AV → Option Int
  | none => some dflt
  | some (.c (.v (.int _ i))) => some i
  | _ => none
theorem run_bound {x : Value} {k : IntKind} {i : Int} {y : Nat} {code : BoundsCode} (hx : x = .int k i) (h0 : 0 ≤ i) (h1 : i ≤ y) (w : World) : (Instr.sliceBound x y code).run P w = .ok i.toNat w := by
  simp [Instr.sliceBound, asIntOf, hx, h0, h1]
/-- What a slice of a slice is: from l, m elements (only what lies within the slice's own length). -/
def sliceC (l h : Nat) : CV → Option CV
  | .ro e ls => some (.ro e ((ls.drop l).take (h - l)))
  | .sl id _ => some (.sb id l (h - l))
  | .sb id lo _ => some (.sb id (lo + l) (h - l))
  | _ => none

theorem take_drop_get {α : Type} {ls : List α} {l m i : Nat} {x : α} (h : ((ls.drop l).take m)[i]? = some x) : ls[l + i]? = some x := by
  rw [List.getElem?_take] at h
  split at h
  · simpa using h
  · cases h
def slcG (P : Program) (G : Gh) (E n : Nat) : CV → Prop
  | .ro e _ => szT P e = szT P E
  | .sl id _ => (G id).sz = szT P E ∧ (0 < n → (G id).nl = false) ∧ n ≤ (G id).cap ∧ ((G id).nl = true → (G id).cap = 0)
  | .sb id _ _ => (G id).sz = szT P E
  | _ => False
theorem sliceC_sound {E : TypeId} {c d : CV} {v : Value} {l h n : Nat} (hv : Cr P G On w c v) (hl : lenC c = some n) (hsl : sliceC l h c = some d) (hlh : l ≤ h) (hh : h ≤ n) (hz : szT P E ≠ 0)
    (hE : slcG P G E n c) :
    ∃ ad cap, v = .slice ad n cap ∧ n ≤ cap ∧ ∀ m, h ≤ m → m ≤ cap → Cr P G On w d (.slice (if m = l then ad else ad.map (·.add (l * szT P E))) (h - l) (m - l)) := by
  cases c with
  | ro e ls =>
    simp only [lenC, Option.some.injEq] at hl; subst hl
    simp only [sliceC, Option.some.injEq] at hsl; subst hsl
    have hlen : ((ls.drop l).take (h - l)).length = h - l := by simp; omega
    cases hv with
    | nil =>
      refine ⟨_, 0, rfl, Nat.le_refl _, fun m hhm hm => ?_⟩
      obtain rfl : m = 0 := by omega
      obtain rfl : l = 0 := by omega
      obtain rfl : h = 0 := by omega
      exact .nil
    | @l _ _ b q cap arr tt fz vals h1 h2 h3 h4 h5 h6 h7 =>
      refine ⟨_, cap, rfl, h3, fun m hhm hm => ?_⟩
      by_cases hml : m = l
      · rw [if_pos hml]
        have : (ls.drop l).take (h - l) = [] := by rw [show h - l = 0 by omega]; simp
        rw [this]
        have := K.l (P := P) (w := w) (U := Uo G w) (e := e) (ls := []) (b := b) (o := q) (cap := m - l) (vals := vals) h1 h2 (by simp) (by omega) (by simp) (by simp) (by simp)
        show K P w (Uo G w) _ _
        simpa [show h - l = 0 by omega] using this
      · rw [if_neg hml]
        have := K.l (P := P) (w := w) (U := Uo G w) (e := e) (ls := (ls.drop l).take (h - l)) (b := b) (o := q + l * szT P e) (cap := m - l) (vals := fun i j => vals (l + i) j) h1 h2 (by rw [hlen]; omega) (by omega)
          (fun i cs hc => h5 _ cs (take_drop_get hc))
          (fun i cs j d hc hd => by
            have := h6 _ cs j d (take_drop_get hc) hd
            rw [← this, Nat.add_mul]; congr 1; omega)
          (fun i cs j d hc hd => h7 _ cs j d (take_drop_get hc) hd)
        rw [hlen] at this
        rw [← (show szT P e = szT P E from hE)]
        show K P w (Uo G w) _ _
        simpa [add_addr] using this
  | sl id k =>
    simp only [lenC, Option.some.injEq] at hl; subst hl
    simp only [sliceC, Option.some.injEq] at hsl; subst hsl
    obtain ⟨hon, rfl⟩ := hv
    refine ⟨_, _, rfl, hE.2.2.1, fun m hhm hm => ⟨hon, _, _, rfl, by omega, by omega, fun h0 => ?_, fun h0 => ?_, fun h0 => ?_⟩⟩
    · subst h0
      split
      · rfl
      · cases (G id).nl <;> simp [hd, Addr.add_zero']
    · rw [if_neg (by omega), hE.2.1 (by omega), hE.1]; simp [hd, add_addr]
    · have : (G id).nl = true := by
        cases hnl : (G id).nl with
        | true => rfl
        | false => rw [hnl] at h0; split at h0 <;> simp [hd] at h0
      have := hE.2.2.2 this; omega
  | sb id lo k =>
    simp only [lenC, Option.some.injEq] at hl; subst hl
    simp only [sliceC, Option.some.injEq] at hsl; subst hsl
    obtain ⟨hon, ad, cap, rfl, h1, h2, h3, h4, h5⟩ := hv
    refine ⟨_, _, rfl, h1, fun m hhm hm => ⟨hon, _, _, rfl, by omega, by omega, fun h0 => ?_, fun h0 => ?_, fun h0 => ?_⟩⟩
    · obtain ⟨rfl, rfl⟩ : lo = 0 ∧ l = 0 := by omega
      rw [h3 rfl]
      split
      · rfl
      · cases (G id).nl <;> simp [hd, Addr.add_zero']
    · rw [if_neg (by omega), h4 (by omega), show (G id).sz = szT P E from hE]; simp [add_addr, Nat.add_mul]
    · have : ad = none := by cases ad with
        | none => rfl
        | some x => split at h0 <;> simp at h0
      have := h5 this; omega
  | _ => exact hE.elim

/-- May this be sliced, at elements of type E? -/
def sliceOk (P : Program) (hp : Hp) (E : Nat) : CV → Prop
  | .ro e _ => szT P e = szT P E
  | .sl id k => match hget hp id with
    | some (.row _ e ls) => szT P e = szT P E ∧ ls.length = k
    | _ => False
  | .sb id _ _ => match hget hp id with
    | some (.row _ e _) => szT P e = szT P E
    | _ => False
  | _ => False
/-- Operands of a slice expression's bounds, as read. -/
def pairs (q : Option Operand) (Q : Option AV) : List (Operand × AV) := q.toList.zip Q.toList

/-- A slice of a slice: from l up to h, with room up to m where that is said. -/
theorem op_sliceC {x : Operand} {t E : TypeId} {c d : CV} {lo hi mx : Option Operand} {L H X : Option AV} {n : Nat} {l h m : Int} (ho : o.op = .slice t x lo hi mx) (ht : P.underlying t = some (.slice E)) (hz : szT P E ≠ 0) (hl : lenC c = some n)
    (hL : bnd 0 L = some l) (hH : bnd n H = some h) (hX : bnd n X = some m) (hmx : X.isSome = true → H.isSome = true) (h0 : 0 ≤ l) (h1 : l ≤ h) (h2 : h ≤ m) (h3 : m ≤ n) (hsl : sliceC l.toNat h.toNat c = some d)
    (hE : sliceOk P hp E c) (hLo : lo.isSome = L.isSome) (hHi : hi.isSome = H.isSome) (hMx : mx.isSome = X.isSome) :
    OpSem P o ((x, .c c) :: pairs lo L ++ pairs hi H ++ pairs mx X) (looks hp c) nid (.c d) [] := by
  refine opsem_val fun sl hp' On B w0 G a w hrs hT hr => ?_
  have e1 := ev_sound hr x; rw [hrs (x, .c c) (by simp)] at e1
  have hE' : slcG P G E n c := by
    cases c with
    | ro e ls => exact hE
    | sl id k =>
      simp only [sliceOk] at hE
      split at hE
      · rename_i pn e ls hg
        have hg' := hT (id, .row pn e ls) (by simp [looks, hg])
        obtain ⟨_, hsz, hm, _⟩ := hr.hp id _ hg'
        simp only [lenC, Option.some.injEq] at hl
        obtain ⟨_, hc⟩ := hm.inv
        have hlk := hE.2
        rcases hc with ⟨_, rfl, hc0⟩ | ⟨h, _, _, _, _, _, _, _, h5, _⟩
        · simp at hlk; exact ⟨hsz.trans hE.1, fun hn => by omega, by omega, fun _ => hc0⟩
        · exact ⟨hsz.trans hE.1, fun _ => h, by omega, fun h' => by rw [h] at h'; cases h'⟩
      · exact hE.elim
    | sb id lo k =>
      simp only [sliceOk] at hE
      split at hE
      · rename_i pn e ls hg
        have hg' := hT (id, .row pn e ls) (by simp [looks, hg])
        exact (hr.hp id _ hg').2.1.trans hE
      · exact hE.elim
    | _ => exact hE.elim
  have hbv : ∀ (q : Option Operand) (Q : Option AV), q.isSome = Q.isSome → (∀ z ∈ pairs q Q, ev sl z.1 = z.2) → ∀ dflt i, bnd dflt Q = some i → (q = none ∧ Q = none ∧ dflt = i) ∨ ∃ op k, q = some op ∧ Q.isSome = true ∧ a.eval op = .int k i := by
    intro q Q hqQ hz dflt i hb
    cases q with
    | none => cases Q with
      | none => simp only [bnd, Option.some.injEq] at hb; exact .inl ⟨rfl, rfl, hb⟩
      | some A => simp at hqQ
    | some op => cases Q with
      | none => simp at hqQ
      | some A =>
        right
        have hev := hz (op, A) (by simp [pairs])
        have e2 := ev_sound hr op
        simp only at hev; rw [hev] at e2
        unfold bnd at hb
        split at hb
        · rename_i hh; cases hh
        · rename_i kk ii hh; injection hh with hh; subst hh; injection hb with hb; subst hb; exact ⟨op, kk, rfl, rfl, vr_v e2⟩
        · cases hb
  have bL := hbv lo L hLo (fun z hz => hrs z (by simp only [List.mem_append, List.mem_cons, List.cons_append]; exact .inr (.inl (.inl hz)))) 0 l hL
  have bH := hbv hi H hHi (fun z hz => hrs z (by simp only [List.mem_append, List.mem_cons, List.cons_append]; exact .inr (.inl (.inr hz)))) n h hH
  have bX := hbv mx X hMx (fun z hz => hrs z (by simp only [List.mem_append, List.mem_cons, List.cons_append]; exact .inr (.inr hz))) n m hX
  obtain ⟨ad, cap, hv, hnc, hres⟩ := sliceC_sound e1 hl hsl (by omega) (by omega) hz hE'
  have hM : ∃ M : Nat, h.toNat ≤ M ∧ M ≤ cap ∧ (Instr.sliceBounds true n cap (lo.map a.eval) (hi.map a.eval) (mx.map a.eval)).run P w = .ok (l.toNat, h.toNat, M) w := by
    rcases bX with ⟨rfl, rfl, _⟩ | ⟨ox, kx, rfl, hXs, hxv⟩
    · refine ⟨cap, by omega, Nat.le_refl _, ?_⟩
      rcases bH with ⟨rfl, rfl, rfl⟩ | ⟨oh, kh, rfl, _, hhv⟩ <;> rcases bL with ⟨rfl, rfl, rfl⟩ | ⟨ol, kl, rfl, _, hlv⟩
      · simp [Instr.sliceBounds]
      · have r2 := run_bound (P := P) (y := n) (code := .sliceB) hlv h0 (by omega) w
        simp [Instr.sliceBounds, r2]
      · have r1 := run_bound (P := P) (y := cap) (code := .sliceAcap) hhv (by omega) (by omega) w
        simp [Instr.sliceBounds, r1]
      · have r1 := run_bound (P := P) (y := cap) (code := .sliceAcap) hhv (by omega) (by omega) w
        have r2 := run_bound (P := P) (y := h.toNat) (code := .sliceB) hlv h0 (by omega) w
        simp [Instr.sliceBounds, r1, r2]
    · refine ⟨m.toNat, by omega, by omega, ?_⟩
      have rx := run_bound (P := P) (y := cap) (code := .slice3Acap) hxv (by omega) (by omega) w
      rcases bH with ⟨rfl, rfl, rfl⟩ | ⟨oh, kh, rfl, _, hhv⟩
      · simp [hXs] at hmx
      · have r1 := run_bound (P := P) (y := m.toNat) (code := .slice3B) hhv (by omega) (by omega) w
        rcases bL with ⟨rfl, rfl, rfl⟩ | ⟨ol, kl, rfl, _, hlv⟩
        · simp [Instr.sliceBounds, rx, r1]
        · have r2 := run_bound (P := P) (y := h.toNat) (code := .slice3C) hlv h0 (by omega) w
          simp [Instr.sliceBounds, rx, r1, r2]
  obtain ⟨M, hM1, hM2, hrun⟩ := hM
  refine ⟨_, ?_, hres M hM1 hM2⟩
  simp [execOp, ho, Instr.sliceAt, Instr.slice, run_underlying ht, hv, hrun, run_sizeOf rfl hz]

/-- A slice of a string. -/
theorem op_sliceS {x : Operand} {t : TypeId} {s : ByteArray} {lo hi : Option Operand} {L H : Option AV} {l h : Int} (ho : o.op = .slice t x lo hi none) (ht : P.underlying t = some .string)
    (hL : bnd 0 L = some l) (hH : bnd s.size H = some h) (h0 : 0 ≤ l) (h1 : l ≤ h) (h2 : h ≤ s.size) (hLo : lo.isSome = L.isSome) (hHi : hi.isSome = H.isSome) :
    OpSem P o ((x, .c (.v (.string s))) :: pairs lo L ++ pairs hi H) [] nid (.c (.v (.string (s.extract l.toNat h.toNat)))) [] := by
  refine opsem_val fun sl hp' On B w0 G a w hrs hT hr => ?_
  have e1 := ev_sound hr x; rw [hrs (x, .c (.v (.string s))) (by simp)] at e1
  have hbv : ∀ (q : Option Operand) (Q : Option AV), q.isSome = Q.isSome → (∀ z ∈ pairs q Q, ev sl z.1 = z.2) → ∀ dflt i, bnd dflt Q = some i → (q = none ∧ Q = none ∧ dflt = i) ∨ ∃ op k, q = some op ∧ Q.isSome = true ∧ a.eval op = .int k i := by
    intro q Q hqQ hz dflt i hb
    cases q with
    | none => cases Q with
      | none => simp only [bnd, Option.some.injEq] at hb; exact .inl ⟨rfl, rfl, hb⟩
      | some A => simp at hqQ
    | some op => cases Q with
      | none => simp at hqQ
      | some A =>
        right
        have hev := hz (op, A) (by simp [pairs])
        have e2 := ev_sound hr op
        simp only at hev; rw [hev] at e2
        unfold bnd at hb
        split at hb
        · rename_i hh; cases hh
        · rename_i kk ii hh; injection hh with hh; subst hh; injection hb with hb; subst hb; exact ⟨op, kk, rfl, rfl, vr_v e2⟩
        · cases hb
  have bL := hbv lo L hLo (fun z hz => hrs z (by simp only [List.mem_append, List.mem_cons, List.cons_append]; exact .inr (.inl hz))) 0 l hL
  have bH := hbv hi H hHi (fun z hz => hrs z (by simp only [List.mem_append, List.mem_cons, List.cons_append]; exact .inr (.inr hz))) s.size h hH
  refine ⟨.string (s.extract l.toNat h.toNat), ?_, rfl, rfl⟩
  rcases bH with ⟨rfl, rfl, rfl⟩ | ⟨oh, kh, rfl, _, hhv⟩ <;> rcases bL with ⟨rfl, rfl, rfl⟩ | ⟨ol, kl, rfl, _, hlv⟩
  · simp [execOp, ho, Instr.sliceAt, Instr.slice, run_underlying ht, vr_v e1, Instr.sliceBounds]
  · have r2 := run_bound (P := P) (y := s.size) (code := .sliceB) hlv h0 (by omega) w
    simp [execOp, ho, Instr.sliceAt, Instr.slice, run_underlying ht, vr_v e1, Instr.sliceBounds, r2]
  · have r1 := run_bound (P := P) (y := s.size) (code := .sliceAlen) hhv (by omega) (by omega) w
    simp [execOp, ho, Instr.sliceAt, Instr.slice, run_underlying ht, vr_v e1, Instr.sliceBounds, r1]
  · have r1 := run_bound (P := P) (y := s.size) (code := .sliceAlen) hhv (by omega) (by omega) w
    have r2 := run_bound (P := P) (y := h.toNat) (code := .sliceB) hlv h0 (by omega) w
    simp [execOp, ho, Instr.sliceAt, Instr.slice, run_underlying ht, vr_v e1, Instr.sliceBounds, r1, r2]
end
end Go.Proofs.Ytekdfddodabfcaa
/- The engine, part N: appends. -/
namespace Go.Proofs.Ytekdfddodabfcaa
open Go.RowKit
set_option linter.unusedVariables false
set_option linter.unusedSimpArgs false

def isS : DV → Bool
  | .s _ => true
  | _ => false
def allS (ls : List (List DV)) : Bool := ls.all fun cs => cs.all isS
/-- What is appended to: the row's elements, and the number that goes. -/
def dstOf (hp : Hp) (E : Nat) : CV → Option (List (List DV) × List Nat)
  | .v (.slice none 0 0) => some ([], [])
  | .sl id n => match hget hp id with
    | some (.row _ e ls) => if e = E ∧ n = ls.length then some (ls, [id]) else none
    | _ => none
  | .sb id 0 n => match hget hp id with
    | some (.row _ e ls) => if e = E ∧ n ≤ ls.length then some (ls.take n, [id]) else none
    | _ => none
  | _ => none
/-- What is copied: elements that are scalars. -/
def srcOf (P : Program) (hp : Hp) (E : Nat) : CV → Option (List (List DV))
  | .v (.slice none 0 0) => some []
  | .ro e ls => if szT P e = szT P E then some ls else none
  | .sl id n => match hget hp id with
    | some (.row _ e ls) => if szT P e = szT P E ∧ n = ls.length then some ls else none
    | _ => none
  | .sb id lo n => match hget hp id with
    | some (.row _ e ls) => if szT P e = szT P E ∧ lo + n ≤ ls.length then some ((ls.drop lo).take n) else none
    | _ => none
  | _ => none

section
variable {P : Program} {G G' : Gh} {On On' : Nat → Prop} {w w' : World} {B : Fr} {w0 : World} {sl : List AV} {hp hp' : Hp} {a : Act} {o : Oper} {nid : Nat}

theorem dst_sound (h : Rel P B w0 G On ⟨sl, hp⟩ a w) {hp0 : Hp} {E : Nat} {c : CV} {y : Value} {ls : List (List DV)} {R : List Nat} (hv : Cr P G On w c y) (hd' : dstOf hp0 E c = some (ls, R)) (hT : ∀ x ∈ looks hp0 c, hget hp x.1 = some x.2) :
    ∃ b nl cap, y = .slice (hd b nl) ls.length cap ∧ M P w (fun k => ∃ r, r ∈ R ∧ (G r).S k) (.l E ls) (.slice (hd b nl) ls.length cap) := by
  unfold dstOf at hd'
  split at hd'
  · simp only [Option.some.injEq, Prod.mk.injEq] at hd'; obtain ⟨rfl, rfl⟩ := hd'
    obtain ⟨rfl, _⟩ := hv; exact ⟨0, true, 0, rfl, .nil⟩
  · rename_i id n
    split at hd'
    · rename_i pn e ls0 hgl
      split at hd'
      · rename_i hn
        simp only [Option.some.injEq, Prod.mk.injEq] at hd'; obtain ⟨rfl, rfl⟩ := hd'
        obtain ⟨rfl, rfl⟩ := hn
        have hT' := hT (id, .row pn e ls0) (by simp [looks, hgl])
        obtain ⟨_, rfl⟩ := hv
        obtain ⟨_, _, hm, _⟩ := h.hp id _ hT'
        exact ⟨_, _, _, rfl, hm.mono fun k hk => ⟨id, by simp, hk⟩⟩
      · cases hd'
    · cases hd'
  · rename_i id n
    split at hd'
    · rename_i pn e ls0 hgl
      split at hd'
      · rename_i hn
        simp only [Option.some.injEq, Prod.mk.injEq] at hd'; obtain ⟨rfl, rfl⟩ := hd'
        obtain ⟨rfl, hn⟩ := hn
        have hT' := hT (id, .row pn e ls0) (by simp [looks, hgl])
        obtain ⟨_, ad, cap, rfl, h1, h2, h3, h4, _⟩ := hv
        obtain ⟨_, _, hm, _⟩ := h.hp id _ hT'
        have hl : (ls0.take n).length = n := by simp; omega
        rw [h3 rfl, hl]
        exact ⟨_, _, _, rfl, (hm.take hn h1 (by omega)).mono fun k hk => ⟨id, by simp, hk⟩⟩
      · cases hd'
    · cases hd'
  · cases hd'

/-- Scalars that are read, as they lie before they are appended. -/
theorem news_of_K {e E : Nat} {ls : List (List DV)} {b q : Nat} {arr : Array Value} {t : Nat} {fz : Nat × Nat} {vals : Nat → Nat → Value} (hz : szT P e = szT P E) (hall : allS ls = true) (hh : w.heap[b]? = some (.cells arr t fz))
    (h5 : ∀ (i : Nat) cs, ls[i]? = some cs → cs.length = szT P e)
    (h6 : ∀ (i : Nat) cs (j : Nat) d, ls[i]? = some cs → cs[j]? = some d → arr[q + i * szT P e + j]? = some (vals i j))
    (h7 : ∀ (i : Nat) cs (j : Nat) v, ls[i]? = some cs → cs[j]? = some (.s v) → vals i j = v ∧ sca v = true) :
    ∃ news, News P w E (fun _ => False) ls news vals (fun _ _ _ => False) ∧ ∀ (j : Nat) u, news[j]? = some u → w.cell? ((⟨b, q, none⟩ : Addr).add j) = some u := by
  have hs : ∀ (i : Nat) cs (j : Nat) d, ls[i]? = some cs → cs[j]? = some d → ∃ v, d = .s v := by
    intro i cs j d h1 h2
    simp only [allS, List.all_eq_true] at hall
    have := hall cs (List.mem_of_getElem? h1) d (List.mem_of_getElem? h2)
    cases d <;> simp [isS] at this
    exact ⟨_, rfl⟩
  refine ⟨(List.range (ls.length * szT P E)).map fun x => vals (x / szT P E) (x % szT P E), ⟨by simp, fun i cs h => by rw [← hz]; exact h5 i cs h, fun i cs j d h1 h2 => ?_, fun i cs j d h1 h2 => ?_, fun _ _ _ h => h.elim, fun _ _ _ _ _ h => h.elim, fun u hu => ?_⟩, fun j u hu => ?_⟩
  · have hj : j < szT P E := by rw [← hz, ← h5 i cs h1]; exact (List.getElem?_eq_some_iff.1 h2).1
    have hi := (List.getElem?_eq_some_iff.1 h1).1
    have hlt := idx_lt hi hj
    rw [List.getElem?_map, List.getElem?_range hlt]
    have e1 : (i * szT P E + j) / szT P E = i := by rw [Nat.add_comm, Nat.add_mul_div_right _ _ (by omega), Nat.div_eq_of_lt hj]; omega
    have e2 : (i * szT P E + j) % szT P E = j := by rw [Nat.add_comm, Nat.add_mul_mod_self_right, Nat.mod_eq_of_lt hj]
    simp [e1, e2]
  · obtain ⟨v, rfl⟩ := hs i cs j d h1 h2
    obtain ⟨h8, h9⟩ := h7 i cs j v h1 h2
    rw [h8]; exact .s h9
  · simp only [List.mem_map, List.mem_range] at hu
    obtain ⟨x, hx, rfl⟩ := hu
    have hpos : 0 < szT P E := by
      rcases Nat.eq_zero_or_pos (szT P E) with h | h
      · rw [h] at hx; simp at hx
      · exact h
    have hi : x / szT P E < ls.length := (Nat.div_lt_iff_lt_mul hpos).2 hx
    have h1 := List.getElem?_eq_getElem hi
    have hj : x % szT P E < ls[x / szT P E].length := by rw [h5 _ _ h1, hz]; exact Nat.mod_lt _ hpos
    have h2 := List.getElem?_eq_getElem hj
    obtain ⟨v, hv⟩ := hs _ _ _ _ h1 h2
    rw [hv] at h2
    obtain ⟨h8, h9⟩ := h7 _ _ _ v h1 h2
    rw [h8]; exact one_of_sca h9
  · rw [List.getElem?_map] at hu
    simp only [Option.map_eq_some_iff] at hu
    obtain ⟨x, hx, rfl⟩ := hu
    have hlt : j < ls.length * szT P E := by have := (List.getElem?_eq_some_iff.1 hx).1; simpa using this
    obtain rfl : x = j := by rw [List.getElem?_range hlt] at hx; exact (Option.some.inj hx).symm
    have hpos : 0 < szT P E := by
      rcases Nat.eq_zero_or_pos (szT P E) with h | h
      · rw [h] at hlt; simp at hlt
      · exact h
    have hi : x / szT P E < ls.length := (Nat.div_lt_iff_lt_mul hpos).2 hlt
    have h1 := List.getElem?_eq_getElem hi
    have hj : x % szT P E < ls[x / szT P E].length := by rw [h5 _ _ h1, hz]; exact Nat.mod_lt _ hpos
    have := h6 _ _ _ _ h1 (List.getElem?_eq_getElem hj)
    rw [add_addr, cell_of_row w b (q + x) arr t fz hh, ← this, hz]
    congr 1
    have := Nat.div_add_mod' x (szT P E)
    omega

/-- What is copied, lies somewhere. -/
theorem src_sound (h : Rel P B w0 G On ⟨sl, hp⟩ a w) {hp0 : Hp} {E : Nat} {c : CV} {y : Value} {ns : List (List DV)} (hv : Cr P G On w c y) (hd' : srcOf P hp0 E c = some ns) (hT : ∀ x ∈ looks hp0 c, hget hp x.1 = some x.2) (hall : allS ns = true) (hz0 : szT P E ≠ 0) :
    ∃ src c' news vals, y = .slice src ns.length c' ∧ News P w E (fun _ => False) ns news vals (fun _ _ _ => False) ∧ Src w src ns.length c' news := by
  have hnone : ∀ ad : Option Addr, ∃ src c' news vals, (Value.slice ad 0 0) = .slice src ([] : List (List DV)).length c' ∧ News P w E (fun _ => False) [] news vals (fun _ _ _ => False) ∧ Src w src ([] : List (List DV)).length c' news :=
    fun ad => ⟨ad, 0, [], fun _ _ => undef, rfl, ⟨by simp, by simp, by simp, by simp, fun _ _ _ h => h.elim, fun _ _ _ _ _ h => h.elim, by simp⟩, by
      cases ad with
      | none => exact .inl ⟨rfl, rfl, rfl, rfl⟩
      | some a => exact .inr ⟨a, rfl, by simp⟩⟩
  unfold srcOf at hd'
  split at hd'
  · simp only [Option.some.injEq] at hd'; subst hd'
    obtain ⟨rfl, _⟩ := hv; exact hnone _
  · rename_i e ls
    split at hd'
    · rename_i hz
      injection hd' with hd'; subst hd'
      cases hv with
      | nil => exact hnone _
      | @l _ _ b q cap arr tt fz vals h1 h2 h3 h4 h5 h6 h7 =>
        obtain ⟨news, hn, hc⟩ := news_of_K (E := E) hz hall h2 h5 h6 (fun i cs j v a b => by have := h7 i cs j _ a b; generalize vals i j = u at this; cases this with | s h => exact ⟨rfl, h⟩)
        exact ⟨_, cap, news, vals, rfl, hn, .inr ⟨_, rfl, hc⟩⟩
    · cases hd'
  · rename_i id n
    split at hd'
    · rename_i pn e ls hgl
      split at hd'
      · rename_i hc
        injection hd' with hd'; subst hd'
        obtain ⟨hz, rfl⟩ := hc
        have hT' := hT (id, .row pn e ls) (by simp [looks, hgl])
        obtain ⟨_, rfl⟩ := hv
        obtain ⟨_, _, hm, _⟩ := h.hp id _ hT'
        obtain ⟨_, hcase⟩ := hm.inv
        rcases hcase with ⟨hnl, rfl, hcap⟩ | ⟨hnl, arr, vals, F, h1, h2, h3, h4, h5, h6, h7, h8, h9, h10⟩
        · rw [hnl, hcap]; exact hnone _
        · obtain ⟨news, hn, hc⟩ := news_of_K (E := E) (q := 0) hz hall h4 h8 (by simpa using h9) (fun i cs j v a b => by have := h10 i cs j _ a b; generalize vals i j = u at this; cases this with | s h => exact ⟨rfl, h⟩)
          rw [hnl]
          exact ⟨_, _, news, vals, rfl, hn, .inr ⟨_, rfl, hc⟩⟩
      · cases hd'
    · cases hd'
  · rename_i id lo n
    split at hd'
    · rename_i pn e ls hgl
      split at hd'
      · rename_i hc
        injection hd' with hd'; subst hd'
        obtain ⟨hz, hlo⟩ := hc
        have hT' := hT (id, .row pn e ls) (by simp [looks, hgl])
        obtain ⟨_, ad, cap, rfl, g1, g2, g3, g4, g5⟩ := hv
        obtain ⟨_, hsz, hm, _⟩ := h.hp id _ hT'
        have hlen : ((ls.drop lo).take n).length = n := by simp; omega
        obtain ⟨_, hcase⟩ := hm.inv
        rcases Nat.eq_zero_or_pos n with h0 | h0
        · subst h0
          simp only [List.take_zero, List.length_nil]
          cases ad with
          | some ad => exact ⟨some ad, cap, [], fun _ _ => undef, rfl, ⟨by simp, by simp, by simp, by simp, fun _ _ _ h => h.elim, fun _ _ _ _ _ h => h.elim, by simp⟩, .inr ⟨_, rfl, by simp⟩⟩
          | none =>
            have : cap = 0 := g5 rfl
            subst this
            exact hnone _
        · rcases hcase with ⟨hnl, rfl, hcap⟩ | ⟨hnl, arr, vals, F, h1, h2, h3, h4, h5, h6, h7, h8, h9, h10⟩
          · simp at hlo; omega
          · have hg : ∀ (i : Nat) cs, ((ls.drop lo).take n)[i]? = some cs → ls[lo + i]? = some cs := fun i cs h => take_drop_get h
            obtain ⟨news, hn, hc⟩ := news_of_K (E := E) (q := lo * szT P e) (vals := fun i j => vals (lo + i) j) hz hall h4 (fun i cs h => h8 _ cs (hg i cs h))
              (fun i cs j d a b => by have := h9 _ cs j d (hg i cs a) b; rw [← this, Nat.add_mul]; )
              (fun i cs j v a b => by have := h10 _ cs j _ (hg i cs a) b; generalize vals (lo + i) j = u at this; cases this with | s h => exact ⟨rfl, h⟩)
            rw [g4 h0, hsz]
            exact ⟨_, cap, news, _, by rw [hlen], hn, .inr ⟨_, rfl, hc⟩⟩
      · cases hd'
    · cases hd'
  · cases hd'
end
end Go.Proofs.Ytekdfddodabfcaa
/- The engine, part O: appends as operations; slices that are made; structs that are built. -/
namespace Go.Proofs.Ytekdfddodabfcaa
open Go.RowKit
set_option linter.unusedVariables false
set_option linter.unusedSimpArgs false

/-- The bytes of an element, if rows of it can be made. -/
def elB (P : Program) (E : Nat) : Option Nat :=
  match P.info? E with
  | some i => match i.zero with
    | some z => if z.cells.size = i.size ∧ i.size ≠ 0 then some i.bytes else none
    | none => none
  | none => none
theorem elB_spec {P : Program} {E n : Nat} (h : elB P E = some n) : ∃ i z, P.info? E = some i ∧ i.zero = some z ∧ z.cells.size = i.size ∧ 0 < szT P E ∧ i.bytes = n := by
  unfold elB at h
  split at h
  · rename_i i hi
    split at h
    · rename_i z hz
      split at h
      · rename_i hc; injection h with h; exact ⟨i, z, hi, hz, hc.1, by simp [szT, hi]; omega, h⟩
      · cases h
    · cases h
  · cases h

section
variable {P : Program} {G G' : Gh} {On On' : Nat → Prop} {w w' : World} {B : Fr} {w0 : World} {sl : List AV} {hp hp' : Hp} {a : Act} {o : Oper} {nid : Nat}

theorem app_core (h : Rel P B w0 G On ⟨sl, hp⟩ a w) (hn : ¬ On nid) {t ty E by_ : Nat} (ht : P.underlying t = some (.slice E)) (hel : elB P E = some by_) {ls ns : List (List DV)} {R R' : List Nat} {b cap c' : Nat} {nl : Bool} {src : Option Addr} {news : List Value} {vals : Nat → Nat → Value} {T : Nat → Prop} {F : Nat → Nat → Nat → Prop}
    (hm : M P w (fun k => ∃ r, r ∈ R ∧ (G r).S k) (.l E ls) (.slice (hd b nl) ls.length cap)) (hnews : News P w E T ns news vals F) (hsrc : Src w src ns.length c' news)
    (hT : ∀ k, T k → ∃ r, r ∈ R' ∧ (G r).S k) (hRR : ∀ r ∈ R, r ∉ R') (h63 : ls.length + ns.length ≤ maxLen) (hby : (ls.length + ns.length) * by_ ≤ 140737488355328) :
    ∃ v w' G', (Builtin.append_ #[t, t] ty #[.slice (hd b nl) ls.length cap, .slice src ns.length c']).run P w = .ok v w' ∧
      Rel P B w0 G' (OnE On (drops (R ++ R') ++ [(nid, some (.row true E (ls ++ ns)))])) ⟨sl, happly hp (drops (R ++ R') ++ [(nid, some (.row true E (ls ++ ns)))])⟩ a w' ∧
      Vr P G' (OnE On (drops (R ++ R') ++ [(nid, some (.row true E (ls ++ ns)))])) w' (.c (.sl nid (ls ++ ns).length)) v := by
  obtain ⟨i, z, hi, hz, hzs, hpos, hb⟩ := elB_spec hel
  subst hb
  have hdis : ∀ k, (∃ r, r ∈ R ∧ (G r).S k) → ¬ T k := fun k ⟨r, hr, hS⟩ hk => by
    obtain ⟨r', hr', hS'⟩ := hT k hk
    exact hRR r hr (h.dis r r' k hS hS' ▸ hr')
  obtain ⟨b', nl', cap', w', hrun, hm', hg⟩ := run_app (P := P) (w := w) t ty E i z ht hi hz hzs hpos hm (fun k ⟨r, _, hS⟩ => (h.own r k hS).2) hnews hdis (fun k hk => by obtain ⟨r, _, hS⟩ := hT k hk; exact (h.own r k hS).2) hsrc h63 hby
  have hll : ls.length + ns.length = (ls ++ ns).length := by simp
  rw [hll] at hrun hm'
  obtain ⟨G', hr', g1, g2⟩ := h.swap hn (R ++ R') (pn := true) hg.os hg.tape hg.output hg.size (fun k hk hS => hg.block k hk (fun e => by
      obtain ⟨_, hcase⟩ := hm.inv
      rcases hcase with ⟨hnl, _⟩ | ⟨hnl, _, _, _, ⟨r, hr, hS'⟩, _⟩
      · rw [hnl] at e; simp [rowOf] at e
      · rw [hnl] at e; simp only [rowOf, Bool.false_eq_true, if_false, Option.some.injEq] at e; subst e; exact hS r (by simp [hr]) hS')) hm' (fun k hk => by
      rcases hk with ⟨r, hr, hS⟩ | hk | hk
      · exact .inl ⟨r, by simp [hr], hS⟩
      · obtain ⟨r, hr, hS⟩ := hT k hk; exact .inl ⟨r, by simp [hr], hS⟩
      · exact .inr hk)
  exact ⟨_, w', G', hrun, hr', .inr (by simp), by rw [g1, g2]⟩

/-- append, of scalars that are copied. -/
theorem op_appendC {x y : Operand} {t E by_ : Nat} {c d : CV} {ls ns : List (List DV)} {R : List Nat} (ho : o.op = .call ⟨.builtin .append, #[x, y], #[t, t]⟩) (ht : P.underlying t = some (.slice E)) (hel : elB P E = some by_)
    (hd' : dstOf hp E c = some (ls, R)) (hs' : srcOf P hp E d = some ns) (hall : allS ns = true) (hlen : (ls.length + ns.length) * by_ ≤ 140737488355328 ∧ ls.length + ns.length ≤ 140737488355328) :
    OpSem P o [(x, .c c), (y, .c d)] (looks hp c ++ looks hp d) nid (.c (.sl nid (ls ++ ns).length)) (drops R ++ [(nid, some (.row true E (ls ++ ns)))]) := by
  refine opsem_of fun sl hp' On B w0 G a w hrs hT hn hr => ?_
  have e1 := ev_sound hr x; rw [rs1 hrs] at e1
  have e2 := ev_sound hr y; rw [rs2 hrs] at e2
  obtain ⟨b, nl, cap, hv, hm⟩ := dst_sound hr e1 hd' (fun z hz => hT z (by simp [hz]))
  obtain ⟨_, _, _, _, _, hpos, _⟩ := elB_spec hel
  obtain ⟨src, c', news, vals, hv2, hnews, hsrc⟩ := src_sound hr e2 hs' (fun z hz => hT z (by simp [hz])) hall (by omega)
  obtain ⟨v, w', G', hrun, hr', hvr⟩ := app_core hr (hn nid (Nat.le_refl _) (by omega)) (ty := o.type) ht hel hm hnews hsrc (R' := []) (fun _ h => h.elim) (by simp) (by simp only [maxLen]; omega) hlen.1
  rw [List.append_nil] at hr' hvr
  refine ⟨v, w', G', ?_, hr', hvr⟩
  simp only [execOp, ho, resolve, invoke, builtin, List.map_toArray, List.map_cons, List.map_nil, hv, hv2, Sem.run_bind, Sem.run_pure, Result.andThen_ok, hrun]
/-- append, of elements that lie in a row of their own, which goes. -/
theorem op_appendM {x y : Operand} {t E by_ : Nat} {c : CV} {ls ns : List (List DV)} {R : List Nat} {id2 : Nat} {pn : Bool} (ho : o.op = .call ⟨.builtin .append, #[x, y], #[t, t]⟩) (ht : P.underlying t = some (.slice E)) (hel : elB P E = some by_)
    (hd' : dstOf hp E c = some (ls, R)) (hs' : hget hp id2 = some (.row pn E ns)) (hid : id2 ∉ R) (hlen : (ls.length + ns.length) * by_ ≤ 140737488355328 ∧ ls.length + ns.length ≤ 140737488355328) :
    OpSem P o [(x, .c c), (y, .c (.sl id2 ns.length))] (looks hp c ++ [(id2, .row pn E ns)]) nid (.c (.sl nid (ls ++ ns).length)) (drops (R ++ [id2]) ++ [(nid, some (.row true E (ls ++ ns)))]) := by
  refine opsem_of fun sl hp' On B w0 G a w hrs hT hn hr => ?_
  have e1 := ev_sound hr x; rw [rs1 hrs] at e1
  have e2 := ev_sound hr y; rw [rs2 hrs] at e2
  obtain ⟨b, nl, cap, hv, hm⟩ := dst_sound hr e1 hd' (fun z hz => hT z (by simp [hz]))
  obtain ⟨_, _, _, _, _, hpos, _⟩ := elB_spec hel
  have hg := hT (id2, .row pn E ns) (by simp)
  obtain ⟨_, hv2⟩ := e2
  obtain ⟨_, hsz, hm2, _⟩ := hr.hp id2 _ hg
  have : ∃ src c' news vals F, Value.slice (hd (G id2).b (G id2).nl) ns.length (G id2).cap = .slice src ns.length c' ∧ News P w E (G id2).S ns news vals F ∧ Src w src ns.length c' news := by
    obtain ⟨_, hcase⟩ := hm2.inv
    rcases hcase with ⟨hnl, rfl, hcap⟩ | ⟨hnl, arr, vals, F, h1, h2, h3, h4, h5, h6, h7, h8, h9, h10⟩
    · rw [hnl, hcap]
      exact ⟨none, 0, [], fun _ _ => undef, fun _ _ _ => False, rfl, ⟨by simp, by simp, by simp, by simp, fun _ _ _ h => h.elim, fun _ _ _ _ _ h => h.elim, by simp⟩, .inl ⟨rfl, rfl, rfl, rfl⟩⟩
    · rw [hnl]
      have hlen2 : ns.length * szT P E ≤ arr.size := Nat.le_trans (Nat.mul_le_mul_right _ h5) h7
      have hget : ∀ (i : Nat) cs (j : Nat) d, ns[i]? = some cs → cs[j]? = some d → (arr.toList.take (ns.length * szT P E))[i * szT P E + j]? = some (vals i j) := by
        intro i cs j d a b
        have hj : j < szT P E := by rw [← h8 i cs a]; exact (List.getElem?_eq_some_iff.1 b).1
        rw [List.getElem?_take, if_pos (idx_lt (List.getElem?_eq_some_iff.1 a).1 hj), Array.getElem?_toList]
        exact h9 i cs j d a b
      refine ⟨_, _, arr.toList.take (ns.length * szT P E), vals, fun i j k => F i j k ∧ k < w.heap.size ∧ ∃ cs, ns[i]? = some cs ∧ j < cs.length, rfl, ⟨by simp; omega, h8, hget, fun i cs j d a b => ?_, fun i j k hk => ⟨(h2 i j k hk.1).1, hk.2.1⟩, fun i j i' j' k a b => h3 _ _ _ _ _ a.1 b.1, fun u hu => ?_⟩, .inr ⟨_, rfl, fun j u hu => ?_⟩⟩
      · have := (h10 i cs j d a b).lt
        exact this.mono fun k hk => ⟨hk.1, hk.2, cs, a, (List.getElem?_eq_some_iff.1 b).1⟩
      · obtain ⟨q, hq⟩ := List.getElem?_of_mem hu
        have hql : q < ns.length * szT P E := by have := (List.getElem?_eq_some_iff.1 hq).1; simp at this; omega
        have hi : q / szT P E < ns.length := (Nat.div_lt_iff_lt_mul hpos).2 hql
        have a1 := List.getElem?_eq_getElem hi
        have hj : q % szT P E < ns[q / szT P E].length := by rw [h8 _ _ a1]; exact Nat.mod_lt _ hpos
        have a2 := List.getElem?_eq_getElem hj
        have := hget _ _ _ _ a1 a2
        rw [show q / szT P E * szT P E + q % szT P E = q from Nat.div_add_mod' _ _, hq] at this
        rw [Option.some.inj this]
        exact (h10 _ _ _ _ a1 a2).one
      · rw [List.getElem?_take] at hu
        split at hu
        · rw [add_addr, Nat.zero_add, cell_of_row w _ j arr E (0, 0) h4]; simpa using hu
        · cases hu
  obtain ⟨src, c', news, vals, F, hv3, hnews, hsrc⟩ := this
  obtain ⟨v, w', G', hrun, hr', hvr⟩ := app_core hr (hn nid (Nat.le_refl _) (by omega)) (ty := o.type) ht hel hm hnews hsrc (R' := [id2]) (fun k hk => ⟨id2, by simp, hk⟩) (fun r hr' e => hid (by simp at e; exact e ▸ hr')) (by simp only [maxLen]; omega) hlen.1
  refine ⟨v, w', G', ?_, hr', hvr⟩
  simp only [execOp, ho, resolve, invoke, builtin, List.map_toArray, List.map_cons, List.map_nil, hv, hv2, hv3, Sem.run_bind, Sem.run_pure, Result.andThen_ok, hrun]
end
end Go.Proofs.Ytekdfddodabfcaa
/- The engine, part P: structs and slices that are built, slices that are made, the least and the greatest of several, texts out of bytes. -/
namespace Go.Proofs.Ytekdfddodabfcaa
open Go.RowKit
set_option linter.unusedVariables false
set_option linter.unusedSimpArgs false

def fillA (place : Nat → Option (Nat × Nat)) (flat : List CV) : List (Nat × List CV) → Option (List CV)
  | [] => some flat
  | (i, cs) :: rest => match place i with
    | some (off, size) => if cs.length = size ∧ off + size ≤ flat.length then fillA place (putN flat off cs) rest else none
    | none => none
/-- Parts, as read. -/
def partsOf (sl : List AV) : List (Nat × Operand) → Option (List (Nat × List CV))
  | [] => some []
  | (i, x) :: rest => match cellsOf (ev sl x), partsOf sl rest with
    | some cs, some r => some ((i, cs) :: r)
    | _, _ => none
/-- The fields' places and sizes. -/
def placesT (P : Program) (t : TypeId) : Option (List (Nat × Nat)) :=
  match P.underlying t with
  | some (.struct fs) => if fs.toList.all (fun f => szT P f.type != 0) then some (fs.toList.map fun f => (f.offset, szT P f.type)) else none
  | _ => none
/-- Elements out of cells that lie in a row. -/
def chunk {α : Type} (n sz : Nat) (ds : List α) : List (List α) := (List.range n).map fun i => (ds.drop (i * sz)).take sz

section
variable {P : Program} {G G' : Gh} {On On' : Nat → Prop} {w w' : World} {B : Fr} {w0 : World} {sl : List AV} {hp hp' : Hp} {a : Act} {o : Oper} {nid : Nat}

theorem put_fold {off : Nat} : ∀ (l : List Value) (k : Nat) (arr : Array Value) (flat cs : List CV), All2 (Cr P G On w) cs l → All2 (Cr P G On w) flat arr.toList →
    All2 (Cr P G On w) (putN flat (off + k) cs) ((l.zipIdx k).foldl (fun a (x : Value × Nat) => a.setIfInBounds (off + x.2) x.1) arr).toList := by
  intro l
  induction l with
  | nil => intro k arr flat cs h1 h2; cases h1; exact h2
  | cons v l ih =>
    intro k arr flat cs h1 h2
    cases h1 with
    | cons h0 ht =>
      simp only [putN, List.zipIdx_cons, List.foldl_cons]
      rw [Nat.add_assoc]
      exact ih (k + 1) _ _ _ ht (by rw [Array.toList_setIfInBounds]; exact h2.set _ h0)
theorem putN_len : ∀ (cs flat : List CV) (off : Nat), (putN flat off cs).length = flat.length := by
  intro cs
  induction cs with
  | nil => intro flat off; rfl
  | cons c cs ih => intro flat off; simp [putN, ih]

def PartR (P : Program) (G : Gh) (On : Nat → Prop) (w : World) (p : Nat × List CV) (q : Nat × Value) : Prop := p.1 = q.1 ∧ All2 (Cr P G On w) p.2 q.2.cells.toList
theorem fill_sound {place : Nat → Option (Nat × Nat)} : ∀ (ap : List (Nat × List CV)) (ps : List (Nat × Value)) (flat flat' : List CV) (cells : Array Value), All2 (PartR P G On w) ap ps → All2 (Cr P G On w) flat cells.toList →
    fillA place flat ap = some flat' → ∃ cells', Instr.fill place cells ps = some cells' ∧ All2 (Cr P G On w) flat' cells'.toList := by
  intro ap
  induction ap with
  | nil => intro ps flat flat' cells h1 h2 h3; cases h1; simp only [fillA, Option.some.injEq] at h3; subst h3; exact ⟨cells, rfl, h2⟩
  | cons p ap ih =>
    intro ps flat flat' cells h1 h2 h3
    cases h1 with
    | @cons _ q _ ps h0 ht =>
      obtain ⟨i, cs⟩ := p
      obtain ⟨i', v⟩ := q
      obtain ⟨rfl, hv⟩ := h0
      simp only [fillA] at h3
      split at h3
      · rename_i off size hpl
        split at h3
        · rename_i hc
          have hl1 : v.cells.size = cs.length := by rw [← Array.length_toList]; exact hv.len.symm
          have hl2 : cells.size = flat.length := by rw [← Array.length_toList]; exact h2.len.symm
          have hfold := put_fold (off := off) v.cells.toList 0 cells flat cs hv h2
          obtain ⟨cells', hf, hall⟩ := ih ps _ flat' _ ht hfold h3
          refine ⟨cells', ?_, hall⟩
          simp only [Instr.fill, hpl]
          rw [if_neg (by simp; omega)]
          rw [← hf]
          congr 1
          rw [← Array.foldl_toList, Array.toList_zipIdx]
        · cases h3
      · cases h3

theorem parts_sound (h : Rel P B w0 G On ⟨sl, hp⟩ a w) : ∀ (ps : List (Nat × Operand)) (ap : List (Nat × List CV)), partsOf sl ps = some ap → All2 (PartR P G On w) ap (ps.map fun x => (x.1, a.eval x.2)) := by
  intro ps
  induction ps with
  | nil => intro ap hp; simp only [partsOf, Option.some.injEq] at hp; subst hp; exact .nil
  | cons p ps ih =>
    intro ap hp
    obtain ⟨i, x⟩ := p
    simp only [partsOf] at hp
    split at hp
    · rename_i cs r h1 h2
      injection hp with hp; subst hp
      exact .cons ⟨rfl, cellsOf_sound h1 (ev_sound h x)⟩ (ih r h2)
    · cases hp
def partRs (sl : List AV) (ps : List (Nat × Operand)) : List (Operand × AV) := ps.map fun x => (x.2, ev sl x.2)
theorem partsOf_same {sl sl' : List AV} : ∀ {ps : List (Nat × Operand)}, (∀ x ∈ partRs sl ps, ev sl' x.1 = x.2) → partsOf sl' ps = partsOf sl ps := by
  intro ps
  induction ps with
  | nil => intro _; rfl
  | cons p ps ih =>
    intro h
    obtain ⟨i, x⟩ := p
    simp only [partsOf]
    rw [ih (fun y hy => h y (by simp only [partRs, List.map_cons, List.mem_cons]; exact .inr hy))]
    have := h (x, ev sl x) (by simp [partRs])
    simp only at this
    rw [this]

theorem run_places {fs : Array Field} (h : fs.toList.all (fun f => szT P f.type != 0) = true) (w : World) :
    (fs.mapM (m := Sem) fun f => do pure (f.offset, ← sizeOf f.type)).run P w = .ok (fs.toList.map fun f => (f.offset, szT P f.type)).toArray w := by
  have key : ∀ (l : List Field), l.all (fun f => szT P f.type != 0) = true → (l.mapM (m := Sem) fun f => do pure (f.offset, ← sizeOf f.type)).run P w = .ok (l.map fun f => (f.offset, szT P f.type)) w := by
    intro l
    induction l with
    | nil => intro _; simp
    | cons f l ih =>
      intro h
      simp only [List.all_cons, Bool.and_eq_true, bne_iff_ne] at h
      simp only [List.mapM_cons, Sem.run_bind, run_sizeOf rfl h.1, Result.andThen_ok, Sem.run_pure, ih (by simpa using h.2), List.map_cons]
  have := key fs.toList h
  rw [Array.mapM_eq_mapM_toList, Sem.run_map, this]
  rfl

theorem op_build {t : TypeId} {ps : Array (Nat × Operand)} {zs : List Value} {pl : List (Nat × Nat)} {ap : List (Nat × List CV)} {flat : List CV} (ho : o.op = .build t ps) (hz : zcT P t = some zs) (hpl : placesT P t = some pl)
    (hps : partsOf sl ps.toList = some ap) (hf : fillA (fun i : Nat => pl[i]?) (zs.map .v) ap = some flat) : OpSem P o (partRs sl ps.toList) [] nid (.ag flat) [] := by
  refine opsem_val fun sl' hp On B w0 G a w hrs hT hr => ?_
  obtain ⟨z, hrun, hcs, hall⟩ := zcT_run hz
  have hp1 := parts_sound hr ps.toList ap (by rw [partsOf_same hrs]; exact hps)
  unfold placesT at hpl
  split at hpl
  · rename_i fs hu
    split at hpl
    · rename_i hfs
      injection hpl with hpl; subst hpl
      obtain ⟨cells', hfill, hall'⟩ := fill_sound ap _ (zs.map .v) flat z.cells hp1 (by rw [hcs]; exact all2_v hall) hf
      refine ⟨.agg cells', ?_, cells', rfl, hall'⟩
      have e1 : (ps.map fun x => (x.1, a.eval x.2)).toList = ps.toList.map fun x => (x.1, a.eval x.2) := by simp
      have hrp := run_places hfs w
      simp only [execOp, ho, Instr.build, Sem.run_bind, hrun, Result.andThen_ok, run_underlying hu]
      rw [hrp]
      have : (fun (i : Nat) => (fs.toList.map fun f => (f.offset, szT P f.type)).toArray[i]?) = (fun (i : Nat) => (fs.toList.map fun f => (f.offset, szT P f.type))[i]?) := by funext i; simp
      simp only [Result.andThen_ok, e1, this]
      rw [hfill]
      simp
    · cases hpl
  · cases hpl
end
end Go.Proofs.Ytekdfddodabfcaa
