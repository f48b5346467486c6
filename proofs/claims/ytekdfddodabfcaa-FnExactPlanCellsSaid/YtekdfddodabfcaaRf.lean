/- The reckoner, part D: between two statements: slots that are not read again are forgotten, blocks that nobody speaks of go, the others are numbered anew. -/
import Derived.Test.YtekdfddodabfcaaRe
import Derived.KernelRfl
import Derived.Laws.Strings
namespace Go.Proofs.Ytekdfddodabfcaa
open Go.RowKit
set_option linter.unusedVariables false
set_option linter.unusedSimpArgs false

def idxGo (id : Nat) : List Nat → Nat → Option Nat
  | [], _ => none
  | x :: l, k => match Nat.beq x id with
    | true => some k
    | false => idxGo id l (k + 1)
def idx (R : List Nat) (id : Nat) : Option Nat := idxGo id R 0
def reF (R : List Nat) : List (Nat × Nat) → Option (List (Nat × Nat))
  | [] => some []
  | (id, off) :: l => match idx R id, reF R l with
    | some j, some r => some ((j, off) :: r)
    | _, _ => none
def reC (R : List Nat) : CV → CV
  | .v x => .v x
  | .ro e ls => .ro e ls
  | .sl id n => match idx R id with
    | some j => .sl j n
    | none => .no
  | .sb id lo n => match idx R id with
    | some j => .sb j lo n
    | none => .no
  | .inn id i k => match idx R id with
    | some j => .inn j i k
    | none => .no
  | .pt id off => match idx R id with
    | some j => .pt j off
    | none => .no
  | .rp id i off => match idx R id with
    | some j => .rp j i off
    | none => .no
  | .tp cs off => .tp cs off
  | .mp id => match idx R id with
    | some j => .mp j
    | none => .no
  | .fn f ps => match reF R ps with
    | some qs => .fn f qs
    | none => .no
  | .no => .no
def reCs (R : List Nat) : List CV → List CV
  | [] => []
  | c :: l => reC R c :: reCs R l
def reA (R : List Nat) : AV → AV
  | .c x => .c (reC R x)
  | .ag xs => .ag (reCs R xs)
  | _ => .no
def reP (R : List Nat) : CV ⊕ List CV → CV ⊕ List CV
  | .inl c => .inl (reC R c)
  | .inr cs => .inr (reCs R cs)
def rePs (R : List Nat) : List (CV ⊕ List CV) → List (CV ⊕ List CV)
  | [] => []
  | c :: l => reP R c :: rePs R l
/-- As reA; tuples stay. -/
def reT (R : List Nat) : AV → AV
  | .c x => .c (reC R x)
  | .ag xs => .ag (reCs R xs)
  | .tu xs => .tu (rePs R xs)
  | .no => .no
def reB (R : List Nat) : AB → AB
  | .var t cs => .var t (reCs R cs)
  | .row pn e ls => .row pn e ls
  | .ob o => .ob o
def isNo : AV → Bool
  | .no => true
  | _ => false
/-- The slots that live on, as they were; renamed. -/
def pickE (n : Nat) (env : Env) : List Nat → Env
  | [] => []
  | x :: l => match isNo (lkN n env x) with
    | true => pickE n env l
    | false => (x, lkN n env x) :: pickE n env l
def reE (R : List Nat) : Env → Env
  | [] => []
  | (x, v) :: l => match isNo (reA R v) with
    | true => reE R l
    | false => (x, reA R v) :: reE R l
def idC : CV → List Nat
  | .sl id _ => [id]
  | .sb id _ _ => [id]
  | .inn id _ _ => [id]
  | .pt id _ => [id]
  | .rp id _ _ => [id]
  | .mp id => [id]
  | .fn _ ps => ps.map Prod.fst
  | _ => []
def idA : AV → List Nat
  | .c x => idC x
  | .ag xs => xs.flatMap idC
  | .tu xs => xs.flatMap fun p => match p with
    | .inl c => idC c
    | .inr cs => cs.flatMap idC
  | .no => []
def idB : Option AB → List Nat
  | some (.var _ cs) => cs.flatMap idC
  | _ => []
def isB : Option AB → Bool
  | some _ => true
  | none => false
def memN (x : Nat) : List Nat → Bool
  | [] => false
  | y :: l => match Nat.beq y x with
    | true => true
    | false => memN x l
/-- The blocks that are spoken of, in the order in which they are met. -/
def reach (hp : Hp) : Nat → List Nat → List Nat → List Nat
  | 0, _, R => R
  | _, [], R => R
  | n + 1, id :: todo, R => match memN id R with
    | true => reach hp n todo R
    | false => match isB (hget hp id) with
      | true => reach hp n (todo ++ idB (hget hp id)) (R ++ [id])
      | false => reach hp n todo R
def blocksOf (hp : Hp) (R : List Nat) : List Nat → Hp
  | [] => []
  | id :: l => ((hget hp id).map (reB R)) :: blocksOf hp R l
/-- Checked: no number twice, all numbers there, the caller's first. -/
def okR (n : Nat) (hp : Hp) (R : List Nat) : Bool := decide R.Nodup && Nat.ble n R.length && (R.take n == List.range n) && R.all fun id => Nat.blt id hp.length
def gcR (n : Nat) (env : Env) (hp : Hp) : List Nat :=
  reach hp 400 ((List.range n).flatMap (fun id => idB (hget hp id)) ++ env.flatMap (fun x => idA x.2)) (List.range n)
def gcT (v : AV) (hp : Hp) (R : List Nat) : St := ⟨[reT R v], blocksOf hp R R⟩

theorem beqN {a b : Nat} (h : Nat.beq a b = true) : a = b := Nat.eq_of_beq_eq_true h
theorem idxGo_get {id : Nat} : ∀ {l : List Nat} {k j : Nat}, idxGo id l k = some j → k ≤ j ∧ l[j - k]? = some id := by
  intro l
  induction l with
  | nil => intro k j h; cases h
  | cons x l ih =>
    intro k j h
    unfold idxGo at h
    split at h
    · rename_i hb; injection h with h; subst h; simp [beqN hb]
    · obtain ⟨h1, h2⟩ := ih h
      refine ⟨by omega, ?_⟩
      rw [show j - k = j - (k + 1) + 1 by omega]
      simpa using h2
theorem idx_get {R : List Nat} {id j : Nat} (h : idx R id = some j) : R[j]? = some id := by have := idxGo_get h; simpa using this.2
theorem reF_le {R : List Nat} : ∀ {ps qs : List (Nat × Nat)}, reF R ps = some qs → FPle R ps qs := by
  intro ps
  induction ps with
  | nil => intro qs h; injection h with h; subst h; trivial
  | cons p ps ih =>
    intro qs h
    obtain ⟨id, off⟩ := p
    unfold reF at h
    split at h
    · rename_i h1 h2; injection h with h; subst h; exact ⟨idx_get h1, rfl, ih h2⟩
    · cases h
theorem reC_le {R : List Nat} (c : CV) : CVle R c (reC R c) := by
  cases c <;> simp only [reC] <;> first
    | exact rfl
    | exact ⟨rfl, rfl⟩
    | (split
       · rename_i h; exact ⟨idx_get h, by first | exact rfl | exact ⟨rfl, rfl⟩⟩
       · trivial)
    | (split
       · rename_i h; exact idx_get h
       · trivial)
    | (split
       · rename_i h; exact ⟨rfl, reF_le h⟩
       · trivial)
    | trivial
theorem reCs_le {R : List Nat} : ∀ cs : List CV, CVles R cs (reCs R cs) := by
  intro cs
  induction cs with
  | nil => trivial
  | cons c cs ih => exact ⟨reC_le c, ih⟩
theorem rePs_le {R : List Nat} : ∀ cs : List (CV ⊕ List CV), PVles R cs (rePs R cs) := by
  intro cs
  induction cs with
  | nil => trivial
  | cons c cs ih =>
    refine ⟨?_, ih⟩
    cases c with
    | inl c => exact reC_le c
    | inr cs => exact reCs_le cs
theorem reA_le {R : List Nat} (v : AV) : AVle R v (reA R v) := by
  cases v with
  | c x => exact reC_le x
  | ag xs => exact reCs_le xs
  | _ => exact avle_no R _
theorem reT_le {R : List Nat} (v : AV) : AVle R v (reT R v) := by
  cases v with
  | c x => exact reC_le x
  | ag xs => exact reCs_le xs
  | tu xs => exact rePs_le xs
  | _ => exact avle_no R _
theorem pickE_ok {n : Nat} {env : Env} {R : List Nat} : ∀ l : List Nat, MkOk R (mkS n env) (reE R (pickE n env l)) := by
  intro l
  induction l with
  | nil => trivial
  | cons x l ih =>
    unfold pickE
    split
    · exact ih
    · unfold reE
      split
      · exact ih
      · refine ⟨?_, ih⟩
        rw [← lkN_mk]; exact reA_le _
theorem blocksOf_le {hp : Hp} {R : List Nat} : ∀ (l : List Nat), (∀ id ∈ l, id < hp.length) → ABles R hp l (blocksOf hp R l) := by
  intro l
  induction l with
  | nil => intro _; trivial
  | cons id l ih =>
    intro h
    refine ⟨?_, h id (by simp), ih fun i hi => h i (by simp [hi])⟩
    cases hg : hget hp id with
    | none => trivial
    | some b =>
      refine ⟨b, rfl, ?_⟩
      cases b with
      | var t cs => exact ⟨rfl, reCs_le cs⟩
      | row pn e ls => exact ⟨rfl, rfl, fun h => h⟩
      | ob o => rfl
theorem okR_wk {n : Nat} {hp : Hp} {R : List Nat} (h : okR n hp R = true) : R.Nodup ∧ n ≤ R.length ∧ R.take n = List.range n ∧ ∀ id ∈ R, id < hp.length := by
  simp only [okR, Bool.and_eq_true, decide_eq_true_eq, beq_iff_eq, List.all_eq_true] at h
  obtain ⟨⟨⟨h1, h2⟩, h3⟩, h4⟩ := h
  exact ⟨h1, Nat.le_of_ble_eq_true h2, h3, fun id hid => by have := h4 id hid; simpa [Nat.blt_eq] using this⟩
theorem gcE_wk {k n : Nat} {env : Env} {hp : Hp} {R l : List Nat} (h : okR k hp R = true) : Wk k R ⟨mkS n env, hp⟩ ⟨mkS n (reE R (pickE n env l)), blocksOf hp R R⟩ := by
  obtain ⟨h1, h2, h3, h4⟩ := okR_wk h
  exact ⟨h1, h2, h3, avles_mk (mkS_len _ _) (pickE_ok l), blocksOf_le _ h4⟩
theorem gcT_wk {n : Nat} {R : List Nat} {v : AV} {hp : Hp} (h : okR n hp R = true) : Wk n R ⟨[v], hp⟩ (gcT v hp R) := by
  obtain ⟨h1, h2, h3, h4⟩ := okR_wk h
  exact ⟨h1, h2, h3, ⟨reT_le v, trivial⟩, blocksOf_le _ h4⟩

/-! ### Rows whose slices nobody speaks of may be spoken of again. -/
def innC (id : Nat) : CV → Bool
  | .inn j _ _ => Nat.beq j id
  | _ => false
def innA (id : Nat) : AV → Bool
  | .c x => innC id x
  | .ag xs => xs.any (innC id)
  | .tu xs => xs.any fun p => match p with
    | .inl c => innC id c
    | .inr cs => cs.any (innC id)
  | .no => false
def innB (id : Nat) : Option AB → Bool
  | some (.var _ cs) => cs.any (innC id)
  | _ => false
def innS (id : Nat) (σ : St) : Bool := σ.sl.any (innA id) || σ.hp.any (innB id)
def pinB (inn : Nat → Bool) (id : Nat) : Option AB → Option AB
  | some (.row false e ls) => match inn id with
    | true => some (.row false e ls)
    | false => some (.row true e ls)
  | b => b
def pinGo (inn : Nat → Bool) : Nat → Hp → Hp
  | _, [] => []
  | k, b :: l => pinB inn k b :: pinGo inn (k + 1) l
def repin (inn : Nat → Bool) (σ : St) : St := ⟨σ.sl, pinGo inn 0 σ.hp⟩

theorem pinGo_get {inn : Nat → Bool} : ∀ (l : Hp) (k id : Nat), hget (pinGo inn k l) id = pinB inn (k + id) (hget l id) := by
  intro l
  induction l with
  | nil => intro k id; simp [pinGo, hget, pinB]
  | cons b l ih =>
    intro k id
    cases id with
    | zero => simp [pinGo, hget]
    | succ id => have := ih (k + 1) id; simp only [hget, pinGo, List.getElem?_cons_succ] at this ⊢; rw [this, show k + 1 + id = k + (id + 1) by omega]
theorem pinGo_len {inn : Nat → Bool} : ∀ (l : Hp) (k : Nat), (pinGo inn k l).length = l.length := by
  intro l
  induction l with
  | nil => intro k; rfl
  | cons b l ih => intro k; simp [pinGo, ih]
theorem repin_get {inn : Nat → Bool} {σ : St} {id : Nat} : hget (repin inn σ).hp id = pinB inn id (hget σ.hp id) := by
  have := pinGo_get (inn := inn) σ.hp 0 id; simpa [repin] using this

def pinR (ls : List (List DV)) (i j : Nat) : Prop := ∃ cs e ls', ls[i]? = some cs ∧ (cs[j]? = some (DV.l e ls') ∨ cs[j]? = some DV.no)
def rpG (inn : Nat → Bool) (σ : St) (G : Gh) : Gh := fun id => match hget σ.hp id, inn id with
  | some (.row false _ ls), false => { G id with pin := pinR ls }
  | _, _ => G id
section
variable {P : Program} {G : Gh} {On : Nat → Prop} {w w0 : World} {B : Fr} {σ : St} {a : Act}
theorem Rel.repin {inn : Nat → Bool} (hinn : ∀ id, innS id σ = true → inn id = true) (h : SRel P B w0 G σ a w) : ∃ G', SRel P B w0 G' (repin inn σ) a w := by
  generalize hGG : rpG inn σ G = G'
  have gB : ∀ id, (G' id).b = (G id).b ∧ (G' id).nl = (G id).nl ∧ (G' id).cap = (G id).cap ∧ (G' id).sz = (G id).sz ∧ (G' id).S = (G id).S := by
    intro id; subst hGG; unfold rpG; split <;> exact ⟨rfl, rfl, rfl, rfl, rfl⟩
  have gI : ∀ id, innS id σ = true → G' id = G id := by
    intro id hi; have hi := hinn id hi; subst hGG; unfold rpG; rw [hi]; split <;> first | rfl | (rename_i h; cases h)
  have gO : ∀ id, (∀ e ls, hget σ.hp id ≠ some (.row false e ls)) → G' id = G id := by
    intro id hi; subst hGG; unfold rpG; split <;> first | rfl | (rename_i h _; exact absurd h (hi _ _))
  have gN : ∀ id e ls, hget σ.hp id = some (.row false e ls) → inn id = false → G' id = { G id with pin := pinR ls } := by
    intro id e ls h1 h2; subst hGG; unfold rpG; rw [h1, h2]
  have gU : ∀ k, Uo G w k → Uo G' w k := fun k hk => ⟨hk.1, fun id hS => hk.2 id (by rw [(gB id).2.2.2.2] at hS; exact hS)⟩
  have hc : ∀ (c : CV) (v : Value), (∀ id, innC id c = true → innS id σ = true) → Cr P G (fun id => id < σ.hp.length) w c v → Cr P G' (fun id => id < (Go.Proofs.Ytekdfddodabfcaa.repin inn σ).hp.length) w c v := by
    intro c v hi hc
    have hlen : (Go.Proofs.Ytekdfddodabfcaa.repin inn σ).hp.length = σ.hp.length := pinGo_len _ _
    rw [hlen]
    cases c with
    | v x => exact hc
    | ro e ls => exact K.move hc gU (fun _ _ => rfl)
    | sl id n => obtain ⟨ho, e⟩ := hc; refine ⟨ho, ?_⟩; rw [(gB id).1, (gB id).2.1, (gB id).2.2.1]; exact e
    | sb id lo n => obtain ⟨ho, e⟩ := hc; refine ⟨ho, ?_⟩; rw [(gB id).1, (gB id).2.1, (gB id).2.2.1, (gB id).2.2.2.1]; exact e
    | inn id i k => obtain ⟨ho, e1, e2⟩ := hc; refine ⟨ho, e1, ?_⟩; rw [gI id (hi id (by simp [innC]))]; exact e2
    | pt id off => obtain ⟨ho, e⟩ := hc; refine ⟨ho, ?_⟩; rw [(gB id).1]; exact e
    | rp id i off => obtain ⟨ho, e⟩ := hc; refine ⟨ho, ?_⟩; rw [(gB id).1, (gB id).2.2.2.1]; exact e
    | tp cs off => obtain ⟨b, o, h1, h2⟩ := hc; exact ⟨b, o, h1, h2.move gU fun _ _ => rfl⟩
    | mp id => obtain ⟨ho, e⟩ := hc; refine ⟨ho, ?_⟩; rw [(gB id).1]; exact e
    | fn f ps =>
      obtain ⟨ho, e⟩ := hc
      refine ⟨ho, ?_⟩
      rw [e]
      have : (ps.map fun p => Value.pointer (some ⟨(G p.1).b, p.2, none⟩)) = ps.map fun p => Value.pointer (some ⟨(G' p.1).b, p.2, none⟩) := List.map_congr_left fun p hp => by rw [(gB p.1).1]
      rw [this]
    | no => exact hc
  have hcs : ∀ (cs : List CV) (vs : List Value), (∀ id, cs.any (innC id) = true → innS id σ = true) → All2 (Cr P G (fun id => id < σ.hp.length) w) cs vs → All2 (Cr P G' (fun id => id < (Go.Proofs.Ytekdfddodabfcaa.repin inn σ).hp.length) w) cs vs := by
    intro cs vs hi ha
    induction ha with
    | nil => exact .nil
    | cons h0 _ ih => exact .cons (hc _ _ (fun id hh => hi id (by simp [hh])) h0) (ih fun id hh => hi id (by simp only [List.any_cons, hh, Bool.or_true]))
  have hps : ∀ (cs : List (CV ⊕ List CV)) (vs : List Value), (∀ id, (cs.any fun p => match p with | .inl c => innC id c | .inr cs => cs.any (innC id)) = true → innS id σ = true) → All2 (Pr P G (fun id => id < σ.hp.length) w) cs vs → All2 (Pr P G' (fun id => id < (Go.Proofs.Ytekdfddodabfcaa.repin inn σ).hp.length) w) cs vs := by
    intro cs vs hi ha
    induction ha with
    | nil => exact .nil
    | @cons a b l m h0 _ ih =>
      refine .cons ?_ (ih fun id hh => hi id (by simp only [List.any_cons, hh, Bool.or_true]))
      cases a with
      | inl c => exact hc _ _ (fun id hh => hi id (by simp [hh])) h0
      | inr cs => obtain ⟨vs, e, h1⟩ := h0; exact ⟨vs, e, hcs _ _ (fun id hh => hi id (by simp only [List.any_cons, hh, Bool.true_or])) h1⟩
  have hsl : ∀ v ∈ σ.sl, ∀ id, innA id v = true → innS id σ = true := fun v hv id hh => by
    simp only [innS, Bool.or_eq_true, List.any_eq_true]; exact .inl ⟨v, hv, hh⟩
  have hav : ∀ (v : AV) (y : Value), (∀ id, innA id v = true → innS id σ = true) → Vr P G (fun id => id < σ.hp.length) w v y → Vr P G' (fun id => id < (Go.Proofs.Ytekdfddodabfcaa.repin inn σ).hp.length) w v y := by
    intro v y hi hv
    cases v with
    | c x => exact hc _ _ hi hv
    | ag xs => obtain ⟨vs, e, h1⟩ := hv; exact ⟨vs, e, hcs _ _ hi h1⟩
    | tu xs => obtain ⟨vs, e, h1⟩ := hv; exact ⟨vs, e, hps _ _ hi h1⟩
    | no => trivial
  have hall : ∀ (l : List AV) (vs : List Value), (∀ v ∈ l, v ∈ σ.sl) → All2 (Vr P G (fun id => id < σ.hp.length) w) l vs → All2 (Vr P G' (fun id => id < (Go.Proofs.Ytekdfddodabfcaa.repin inn σ).hp.length) w) l vs := by
    intro l vs hm ha
    induction ha with
    | nil => exact .nil
    | @cons a b l m h0 _ ih => exact .cons (hav _ _ (hsl a (hm a (by simp))) h0) (ih fun v hv => hm v (by simp [hv]))
  refine ⟨G', h.bel, h.base, hall _ _ (fun v h => h) h.sl, fun id blk hb => ?_, fun id k hS => ?_, fun id hid => ?_, fun id id' k h1 h2 => ?_, h.df, fun id hid => ?_⟩
  · rw [repin_get] at hb
    have hlen : (Go.Proofs.Ytekdfddodabfcaa.repin inn σ).hp.length = σ.hp.length := pinGo_len _ _
    cases hg : hget σ.hp id with
    | none => rw [hg] at hb; simp [pinB] at hb
    | some b0 =>
      obtain ⟨hon, hbk⟩ := h.hp id b0 hg
      refine ⟨by rw [hlen]; exact hon, ?_⟩
      rw [hg] at hb
      cases b0 with
      | var t cs =>
        simp only [pinB, Option.some.injEq] at hb
        subst hb
        obtain ⟨h1, h2, arr, h3, h4⟩ := hbk
        have hG : G' id = G id := gO id (by rw [hg]; intro e ls h; cases h)
        rw [hG]
        refine ⟨h1, h2, arr, h3, hcs _ _ (fun j hh => ?_) h4⟩
        simp only [innS, Bool.or_eq_true, List.any_eq_true]
        refine .inr ⟨some (.var t cs), ?_, by simpa [innB] using hh⟩
        unfold hget at hg
        cases hq : σ.hp[id]? with
        | none => rw [hq] at hg; cases hg
        | some x => rw [hq] at hg; simp at hg; subst hg; exact List.mem_of_getElem? hq
      | ob o =>
        simp only [pinB, Option.some.injEq] at hb
        subst hb
        have hG : G' id = G id := gO id (by rw [hg]; intro e ls h; cases h)
        rw [hG]; exact hbk
      | row pn e ls =>
        obtain ⟨h1, h2, h3⟩ := hbk
        cases pn with
        | true =>
          simp only [pinB, Option.some.injEq] at hb
          subst hb
          have hG : G' id = G id := gO id (by rw [hg]; intro e ls h; cases h)
          rw [hG]; exact ⟨h1, h2, h3⟩
        | false =>
          cases hi : inn id with
          | true =>
            simp only [pinB, hi, Option.some.injEq] at hb
            subst hb
            rw [show G' id = G id by subst hGG; unfold rpG; rw [hi]; split <;> first | rfl | (rename_i h; cases h)]; exact ⟨h1, h2, h3⟩
          | false =>
            simp only [pinB, hi, Option.some.injEq] at hb
            subst hb
            have hG : G' id = { G id with pin := pinR ls } := gN id e ls hg hi
            rw [hG]
            exact ⟨h1, h2, fun i j => by simp [pinR]⟩
  · rw [(gB id).2.2.2.2] at hS; exact h.own id k hS
  · rw [repin_get] at hid
    have hg : hget σ.hp id = none := by
      cases hg : hget σ.hp id with
      | none => rfl
      | some b =>
        rw [hg] at hid
        cases b with
        | var t cs => simp [pinB] at hid
        | ob o => simp [pinB] at hid
        | row pn e ls => cases pn <;> simp only [pinB] at hid <;> first | cases hid | (split at hid <;> cases hid)
    obtain ⟨h1, h2⟩ := h.dead id hg
    have hG : G' id = G id := gO id (by rw [hg]; intro e ls h; cases h)
    rw [hG]; exact ⟨h1, h2⟩
  · rw [(gB id).2.2.2.2] at h1; rw [(gB id').2.2.2.2] at h2; exact h.dis id id' k h1 h2
  · obtain ⟨h1, h2, h3, h4, h5⟩ := h.an id hid
    have hlen : (Go.Proofs.Ytekdfddodabfcaa.repin inn σ).hp.length = σ.hp.length := pinGo_len _ _
    refine ⟨by show id < _; rw [hlen]; exact h1, ?_⟩
    rw [(gB id).1, (gB id).2.1, (gB id).2.2.1, (gB id).2.2.2.1]
    exact ⟨h2, h3, h4, h5⟩
end
theorem AW.repin {P : Program} {n : Nat} {c : Code} {σ : St} {Q : Exit → St → Prop} {inn : Nat → Bool} (hinn : ∀ id, innS id σ = true → inn id = true) (h : AW P n c (repin inn σ) Q) : AW P n c σ Q := fun B w0 G a w hn hr => by
  obtain ⟨G', hr'⟩ := Rel.repin hinn hr
  exact h B w0 G' a w hn hr'

def innE (env : Env) (hp : Hp) (id : Nat) : Bool := env.any (fun x => innA id x.2) || hp.any (innB id)
theorem innE_ok {n : Nat} {env : Env} {hp : Hp} : ∀ id, innS id ⟨mkS n env, hp⟩ = true → innE env hp id = true := by
  intro id h
  simp only [innS, innE, Bool.or_eq_true] at h ⊢
  rcases h with h | h
  · left
    rw [List.any_eq_true] at h ⊢
    obtain ⟨v, hv, hi⟩ := h
    induction env with
    | nil => simp [mkS] at hv; obtain ⟨_, rfl⟩ := hv; simp [innA] at hi
    | cons x env ih =>
      obtain ⟨k, u⟩ := x
      simp only [mkS] at hv
      rcases List.mem_or_eq_of_mem_set hv with hv | rfl
      · obtain ⟨y, hy, h2⟩ := ih hv; exact ⟨y, by simp [hy], h2⟩
      · exact ⟨(k, v), by simp, hi⟩
  · exact .inr h

/-! ### A state, laid out: so that it is reckoned once. -/
section
variable {α : Type}
def frC (c : CV) (K : CV → α) : α :=
  match c with
  | .v x => K (.v x)
  | .ro e ls => K (.ro e ls)
  | .sl id n => K (.sl id n)
  | .sb id lo n => K (.sb id lo n)
  | .inn id i k => K (.inn id i k)
  | .pt id off => K (.pt id off)
  | .rp id i off => K (.rp id i off)
  | .tp cs off => K (.tp cs off)
  | .mp id => K (.mp id)
  | .fn f ps => K (.fn f ps)
  | .no => K .no
def frCs (cs : List CV) (K : List CV → α) : α :=
  match cs with
  | [] => K []
  | c :: l => frC c fun c => frCs l fun l => K (c :: l)
def frA (v : AV) (K : AV → α) : α :=
  match v with
  | .c x => frC x fun x => K (.c x)
  | .ag xs => frCs xs fun xs => K (.ag xs)
  | .tu xs => K (.tu xs)
  | .no => K .no
def frE (env : Env) (K : Env → α) : α :=
  match env with
  | [] => K []
  | (x, v) :: l => frA v fun v => frE l fun l => K ((x, v) :: l)
def frB (b : Option AB) (K : Option AB → α) : α :=
  match b with
  | none => K none
  | some (.var t cs) => frCs cs fun cs => K (some (.var t cs))
  | some (.row true e ls) => K (some (.row true e ls))
  | some (.row false e ls) => K (some (.row false e ls))
  | some (.ob o) => K (some (.ob o))
def frHp (hp : Hp) (K : Hp → α) : α :=
  match hp with
  | [] => K []
  | b :: l => frB b fun b => frHp l fun l => K (b :: l)
theorem frC_eq (c : CV) (K : CV → α) : frC c K = K c := by cases c <;> rfl
theorem frCs_eq (cs : List CV) : ∀ (K : List CV → α), frCs cs K = K cs := by
  induction cs with
  | nil => intro K; rfl
  | cons c l ih => intro K; unfold frCs; rw [frC_eq, ih]
theorem frA_eq (v : AV) (K : AV → α) : frA v K = K v := by
  cases v with
  | c x => exact frC_eq x fun x => K (.c x)
  | ag xs => exact frCs_eq xs fun xs => K (.ag xs)
  | tu xs => rfl
  | no => rfl
theorem frE_eq (env : Env) : ∀ (K : Env → α), frE env K = K env := by
  induction env with
  | nil => intro K; rfl
  | cons c l ih => intro K; unfold frE; rw [frA_eq, ih]
theorem frB_eq (b : Option AB) (K : Option AB → α) : frB b K = K b := by
  cases b with
  | none => rfl
  | some b => cases b with
    | var t cs => exact frCs_eq cs fun cs => K (some (.var t cs))
    | row pn e ls => cases pn <;> rfl
    | ob o => rfl
theorem frHp_eq (hp : Hp) : ∀ (K : Hp → α), frHp hp K = K hp := by
  induction hp with
  | nil => intro K; rfl
  | cons c l ih => intro K; unfold frHp; rw [frB_eq, ih]
end
end Go.Proofs.Ytekdfddodabfcaa
/- The reckoner, part E: a place in a function's body, what is left to do from there, and how the body is reckoned from place to place. -/
namespace Go.Proofs.Ytekdfddodabfcaa
open Go.RowKit
set_option linter.unusedVariables false
set_option linter.unusedSimpArgs false

/-! ### A loop, unrolled once. -/
theorem steps_tail {P : Program} {m m₁ m' : Machine} (h : step P m = .next m₁) (hs : Steps P m m') (hne : m ≠ m') : Steps P m₁ m' := by
  obtain ⟨n, hn⟩ := hs
  cases n with
  | zero => simp [runN] at hn; exact absurd hn hne
  | succ n => refine ⟨n, ?_⟩; simpa [runN, h] using hn
theorem exitTo_len {id : Nat} : ∀ {k k' : List Item}, exitTo id k = some k' → k'.length < k.length := by
  intro k
  induction k with
  | nil => intro k' h; simp [exitTo] at h
  | cons x k ih =>
    intro k' h
    have key : exitTo id k = some k' ∨ k = k' := by
      cases x <;> simp only [exitTo] at h <;> first | exact .inl h | (split at h <;> first | (injection h with h; exact .inr h) | exact .inl h)
    rcases key with h | rfl
    · have := ih h; simp; omega
    · simp
theorem lone_todo {b : Frame} {a a' : Act} {k k' : List Item} {cs : List Frame} {w w' : World} (h : lone (b.at a k) cs w = lone (b.at a' k') cs w') : k = k' := by
  have h1 : (b.at a k) = (b.at a' k') := by simpa [lone] using (congrArg Machine.gs h)
  have := congrArg Frame.todo h1
  simpa [Frame.at] using this
/-- Ends that the reckoner knows. -/
def QOk (Q : Exit → St → Prop) : Prop := ∀ e σ, Q e σ → e = .normal ∨ (∃ i, e = .exit i) ∨ e = .ret
theorem AW.unroll {P : Program} {n : Nat} {c : Code} {σ : St} {Q : Exit → St → Prop} (hQ : QOk Q) (h : AW P n c σ (thenA (fun σ' => AW P n (.loop c) σ' Q) Q)) : AW P n (.loop c) σ Q := fun B w0 G a w hn hr => by
  intro b k cs
  obtain ⟨e, a₁, w₁, ⟨G₁, σ₁, hq, hr₁⟩, harr⟩ := h B w0 G a w hn hr b (.inLoop c :: k) cs
  have hpass : ∀ e, (∀ a w, e ≠ .normal ∨ Arrives P (lone (b.at a (.code c :: .inLoop c :: k)) cs w) b k cs e a w) → Arrives P (lone (b.at a (.code c :: .inLoop c :: k)) cs w) b (.inLoop c :: k) cs e a₁ w₁ → e ≠ .normal → Arrives P (lone (b.at a (.code (.loop c) :: k)) cs w) b k cs e a₁ w₁ :=
    fun e _ harr hne => .of_steps (.one step_loop) (.pass (x := .inLoop c) rfl (fun _ _ => .inl hne) harr)
  cases e with
  | normal =>
    obtain ⟨e₂, a₂, w₂, hq₂, harr₂⟩ := hq B w0 G₁ a₁ w₁ hn hr₁ b k cs
    refine ⟨e₂, a₂, w₂, hq₂, ?_⟩
    refine .of_steps (.one step_loop) (.of_steps (Steps.trans harr (.one step_inLoop)) ?_)
    obtain ⟨G₂, σ₂, hq₂, _⟩ := hq₂
    rcases hQ _ _ hq₂ with rfl | ⟨i, rfl⟩ | rfl
    · exact steps_tail step_loop harr₂ (fun e => by have := lone_todo e; simp at this)
    · intro k' hk
      refine steps_tail step_loop (harr₂ k' hk) (fun e => ?_)
      have := lone_todo e
      have h2 := exitTo_len hk
      rw [← this] at h2; simp at h2; omega
    · obtain ⟨todo, hs⟩ := harr₂
      refine ⟨todo, steps_tail step_loop hs (fun e => ?_)⟩
      have h1 := congrArg Machine.gs e
      simp [lone] at h1
      have := congrArg Frame.mode h1
      simp [Frame.at] at this
  | exit i => exact ⟨_, a₁, w₁, ⟨G₁, σ₁, hq, hr₁⟩, .of_steps (.one step_loop) (.pass (x := .inLoop c) rfl (fun _ _ => .inl (by simp)) harr)⟩
  | goto l => exact ⟨_, a₁, w₁, ⟨G₁, σ₁, hq, hr₁⟩, .of_steps (.one step_loop) (.pass (x := .inLoop c) rfl (fun _ _ => .inl (by simp)) harr)⟩
  | ret => exact ⟨_, a₁, w₁, ⟨G₁, σ₁, hq, hr₁⟩, .of_steps (.one step_loop) (.pass (x := .inLoop c) rfl (fun _ _ => .inl (by simp)) harr)⟩
  | panic ch => exact ⟨_, a₁, w₁, ⟨G₁, σ₁, hq, hr₁⟩, .of_steps (.one step_loop) (.pass (x := .inLoop c) rfl (fun _ _ => .inl (by simp)) harr)⟩
  | outgrown => exact ⟨_, a₁, w₁, ⟨G₁, σ₁, hq, hr₁⟩, .of_steps (e := .outgrown) (b := b) (k := k) (cs := cs) (.one step_loop) (.pass (x := .inLoop c) rfl (fun _ _ => .inl (by simp)) harr)⟩

/-! ### Places. -/
def subC : List Nat → Code → Code
  | [], c => c
  | k :: p, c => match c, k with
    | .seq a _, 0 => subC p a
    | .seq _ b, 1 => subC p b
    | .cond _ a _, 0 => subC p a
    | .cond _ _ b, 1 => subC p b
    | .block _ c, 0 => subC p c
    | .scope c, 0 => subC p c
    | .loop c, 0 => subC p c
    | _, _ => .refuse ""
def kontC (P : Program) (n : Nat) : List Nat → Code → (Exit → St → Prop) → Exit → St → Prop
  | [], _, Q => Q
  | k :: p, c, Q => match c, k with
    | .seq a b, 0 => kontC P n p a (thenA (fun σ => AW P n b σ Q) Q)
    | .seq _ b, 1 => kontC P n p b Q
    | .cond _ a _, 0 => kontC P n p a Q
    | .cond _ _ b, 1 => kontC P n p b Q
    | .block id c, 0 => kontC P n p c (blockA id Q)
    | .scope c, 0 => kontC P n p c (scopeA Q)
    | .loop c, 0 => kontC P n p c (thenA (fun σ => AW P n (.loop c) σ Q) Q)
    | _, _ => fun _ _ => False
/-- From place p of the body B, in state σ, an end is come to that Q tells of. -/
def AtB (P : Program) (n : Nat) (B : Code) (Q : Exit → St → Prop) (p : List Nat) (σ : St) : Prop := AW P n (subC p B) σ (kontC P n p B Q)

inductive Tg where
  | to (p : List Nat)
  | out (e : Exit)
  | bad
/-- Where one comes to from place p, if what stands there ends with e. -/
def tgt : List Nat → Code → Exit → Tg
  | [], _, e => .out e
  | k :: p, c, e => match c, k with
    | .seq a _, 0 => match tgt p a e with
      | .to q => .to (0 :: q)
      | .out .normal => .to [1]
      | r => r
    | .seq _ b, 1 => match tgt p b e with
      | .to q => .to (1 :: q)
      | r => r
    | .cond _ a _, 0 => match tgt p a e with
      | .to q => .to (0 :: q)
      | r => r
    | .cond _ _ b, 1 => match tgt p b e with
      | .to q => .to (1 :: q)
      | r => r
    | .block id c, 0 => match tgt p c e with
      | .to q => .to (0 :: q)
      | .out (.exit i) => match Nat.beq i id with
        | true => .out .normal
        | false => .out (.exit i)
      | r => r
    | .scope c, 0 => match tgt p c e with
      | .to q => .to (0 :: q)
      | .out (.goto _) => .bad
      | r => r
    | .loop c, 0 => match tgt p c e with
      | .to q => .to (0 :: q)
      | .out .normal => .to []
      | r => r
    | _, _ => .bad

section
variable {P : Program} {n : Nat}
theorem qok_then {K : St → Prop} {Q : Exit → St → Prop} (h : QOk Q) : QOk (thenA K Q) := by
  intro e σ hq
  cases e with
  | normal => exact .inl rfl
  | _ => exact h _ σ hq
theorem qok_block {id : Nat} {Q : Exit → St → Prop} (h : QOk Q) : QOk (blockA id Q) := by
  intro e σ hq
  cases e with
  | exit i => exact .inr (.inl ⟨i, rfl⟩)
  | _ => exact h _ σ hq
theorem qok_scope {Q : Exit → St → Prop} (h : QOk Q) : QOk (scopeA Q) := by
  intro e σ hq
  cases e with
  | goto i => exact hq.elim
  | _ => exact h _ σ hq
theorem kontC_qok : ∀ (p : List Nat) (c : Code) (Q : Exit → St → Prop), QOk Q → QOk (kontC P n p c Q) := by
  intro p
  induction p with
  | nil => intro c Q h; exact h
  | cons k p ih =>
    intro c Q h
    unfold kontC
    split
    · exact ih _ _ (qok_then h)
    · exact ih _ _ h
    · exact ih _ _ h
    · exact ih _ _ h
    · exact ih _ _ (qok_block h)
    · exact ih _ _ (qok_scope h)
    · exact ih _ _ (qok_then h)
    · intro e σ hf; exact hf.elim
/-- What a target is worth. -/
def TgOk (P : Program) (n : Nat) (B : Code) (Q : Exit → St → Prop) (σ : St) : Tg → Prop
  | .to q => AtB P n B Q q σ
  | .out e => Q e σ
  | .bad => False
theorem tgt_sound : ∀ (p : List Nat) (c : Code) (Q : Exit → St → Prop) (e : Exit) (σ : St), TgOk P n c Q σ (tgt p c e) → kontC P n p c Q e σ := by
  intro p
  induction p with
  | nil => intro c Q e σ h; exact h
  | cons k p ih =>
    intro c Q e σ h
    unfold tgt at h
    unfold kontC
    split at h
    · refine ih _ _ _ _ ?_
      split at h
      · rename_i q hq; rw [hq]; exact h
      · rename_i hq; rw [hq]; exact h
      · rename_i hq1 hq2
        cases hr : tgt p _ e with
        | to q => exact absurd hr (hq1 q)
        | bad => rw [hr] at h; exact h.elim
        | out e' =>
          rw [hr] at h
          cases e' with
          | normal => exact absurd hr hq2
          | _ => exact h
    · refine ih _ _ _ _ ?_
      split at h
      · rename_i q hq; rw [hq]; exact h
      · rename_i hq1
        cases hr : tgt p _ e with
        | to q => exact absurd hr (hq1 q)
        | _ => rw [hr] at h; exact h
    · refine ih _ _ _ _ ?_
      split at h
      · rename_i q hq; rw [hq]; exact h
      · rename_i hq1
        cases hr : tgt p _ e with
        | to q => exact absurd hr (hq1 q)
        | _ => rw [hr] at h; exact h
    · refine ih _ _ _ _ ?_
      split at h
      · rename_i q hq; rw [hq]; exact h
      · rename_i hq1
        cases hr : tgt p _ e with
        | to q => exact absurd hr (hq1 q)
        | _ => rw [hr] at h; exact h
    · rename_i id c
      refine ih _ _ _ _ ?_
      split at h
      · rename_i q hq; rw [hq]; exact h
      · rename_i i hq
        rw [hq]
        split at h
        · rename_i hb
          have := beqN hb
          subst this
          simp only [TgOk, blockA, if_true]; exact h
        · rename_i hb
          have : i ≠ id := by intro e; subst e; simp at hb
          simp only [TgOk, blockA, if_neg this]; exact h
      · rename_i hq1 hq2
        cases hr : tgt p _ e with
        | to q => exact absurd hr (hq1 q)
        | bad => rw [hr] at h; exact h.elim
        | out e' =>
          rw [hr] at h
          cases e' with
          | exit i => exact absurd hr (hq2 i)
          | _ => exact h
    · refine ih _ _ _ _ ?_
      split at h
      · rename_i q hq; rw [hq]; exact h
      · exact h.elim
      · rename_i hq1 hq2
        cases hr : tgt p _ e with
        | to q => exact absurd hr (hq1 q)
        | bad => rw [hr] at h; exact h.elim
        | out e' =>
          rw [hr] at h
          cases e' with
          | goto l => exact absurd hr (hq2 l)
          | _ => exact h
    · refine ih _ _ _ _ ?_
      split at h
      · rename_i q hq; rw [hq]; exact h
      · rename_i hq; rw [hq]; exact h
      · rename_i hq1 hq2
        cases hr : tgt p _ e with
        | to q => exact absurd hr (hq1 q)
        | bad => rw [hr] at h; exact h.elim
        | out e' =>
          rw [hr] at h
          cases e' with
          | normal => exact absurd hr hq2
          | _ => exact h
    · exact h.elim
theorem sub_ref (q : List Nat) : subC q (.refuse "") = .refuse "" := by cases q <;> rfl
theorem sub_app : ∀ (p q : List Nat) (c : Code), subC (p ++ q) c = subC q (subC p c) := by
  intro p
  induction p with
  | nil => intro q c; rfl
  | cons k p ih =>
    intro q c
    cases c <;> rcases k with _ | _ | k <;> first | exact ih q _ | exact (sub_ref q).symm
theorem kont_app : ∀ (p q : List Nat) (c : Code) (Q : Exit → St → Prop), kontC P n (p ++ q) c Q = kontC P n q (subC p c) (kontC P n p c Q) ∨ subC p c = .refuse "" := by
  intro p
  induction p with
  | nil => intro q c Q; exact .inl rfl
  | cons k p ih =>
    intro q c Q
    cases c <;> rcases k with _ | _ | k <;> first | exact ih q _ _ | exact .inr rfl
variable {B : Code} {Q : Exit → St → Prop} {p : List Nat} {σ : St}
theorem at_seq {x y : Code} (hs : subC p B = .seq x y) (h : AtB P n B Q (p ++ [0]) σ) : AtB P n B Q p σ := by
  unfold AtB at h ⊢
  rw [sub_app, hs] at h
  rcases kont_app (P := P) (n := n) p [0] B Q with hk | hk
  · rw [hk, hs] at h; rw [hs]; exact AW.seq h
  · rw [hk] at hs; cases hs
theorem at_block {id : Nat} {x : Code} (hs : subC p B = .block id x) (h : AtB P n B Q (p ++ [0]) σ) : AtB P n B Q p σ := by
  unfold AtB at h ⊢
  rw [sub_app, hs] at h
  rcases kont_app (P := P) (n := n) p [0] B Q with hk | hk
  · rw [hk, hs] at h; rw [hs]; exact AW.block h
  · rw [hk] at hs; cases hs
theorem at_scope {x : Code} (hs : subC p B = .scope x) (h : AtB P n B Q (p ++ [0]) σ) : AtB P n B Q p σ := by
  unfold AtB at h ⊢
  rw [sub_app, hs] at h
  rcases kont_app (P := P) (n := n) p [0] B Q with hk | hk
  · rw [hk, hs] at h; rw [hs]; exact AW.scope h
  · rw [hk] at hs; cases hs
theorem at_loop {x : Code} (hQ : QOk Q) (hs : subC p B = .loop x) (h : AtB P n B Q (p ++ [0]) σ) : AtB P n B Q p σ := by
  unfold AtB at h ⊢
  rw [sub_app, hs] at h
  rcases kont_app (P := P) (n := n) p [0] B Q with hk | hk
  · rw [hk, hs] at h; rw [hs]; exact AW.unroll (kontC_qok _ _ _ hQ) h
  · rw [hk] at hs; cases hs
theorem at_cond {o : Operand} {x y : Code} {b : Bool} (hs : subC p B = .cond o x y) (hb : ev σ.sl o = .c (.v (.bool b))) (h1 : b = true → AtB P n B Q (p ++ [0]) σ) (h2 : b = false → AtB P n B Q (p ++ [1]) σ) : AtB P n B Q p σ := by
  unfold AtB at h1 h2 ⊢
  rw [sub_app, hs] at h1 h2
  rcases kont_app (P := P) (n := n) p [0] B Q with hk | hk
  · rcases kont_app (P := P) (n := n) p [1] B Q with hk' | hk'
    · rw [hk, hs] at h1; rw [hk', hs] at h2; rw [hs]; exact AW.cond hb h1 h2
    · rw [hk'] at hs; cases hs
  · rw [hk] at hs; cases hs
theorem at_end {e : Exit} (hs : AW P n (subC p B) σ (fun e' σ' => e' = e ∧ σ' = σ)) (h : TgOk P n B Q σ (tgt p B e)) : AtB P n B Q p σ :=
  hs.mono fun e' σ' ⟨h1, h2⟩ => by subst h1; subst h2; exact tgt_sound _ _ _ _ _ h
theorem at_region {id : Nat} {ops : Array Oper} (hs : subC p B = .region id ops false) (h : AOps P ops ops.toList σ.sl σ.hp fun sl hp => TgOk P n B Q ⟨sl, hp⟩ (tgt p B .normal)) : AtB P n B Q p σ := by
  unfold AtB
  rw [hs]
  refine (AW.region (Q := fun e σ' => e = .normal ∧ TgOk P n B Q σ' (tgt p B .normal)) ?_).mono fun e σ' ⟨h1, h2⟩ => by subst h1; exact tgt_sound _ _ _ _ _ h2
  simpa using h
theorem at_draw {id : Nat} {ops : Array Oper} (hm : P.follows .mixedOrders = true) (hs : subC p B = .region id ops true)
    (h : ADraw P ops σ.hp.length (fun sl hp acc => okDraw ops σ.hp.length acc = true ∧ TgOk P n B Q ⟨sl, hp⟩ (tgt p B .normal)) 0 ops.toList σ.sl σ.hp []) : AtB P n B Q p σ := by
  unfold AtB
  rw [hs]
  refine (AW.draw hm (Q := fun e σ' => e = .normal ∧ TgOk P n B Q σ' (tgt p B .normal)) ?_).mono fun e σ' ⟨h1, h2⟩ => by subst h1; exact tgt_sound _ _ _ _ _ h2
  simpa using h
end
end Go.Proofs.Ytekdfddodabfcaa
/- The reckoner, part F: a body, reckoned. -/
namespace Go.Proofs.Ytekdfddodabfcaa
open Go.RowKit
set_option linter.unusedVariables false
set_option linter.unusedSimpArgs false

/-- What is proved of a function's body: the program, the body, how many blocks are the caller's, how many slots there are, where the results lie, the slots that live on between statements (cs: with those of tests; heads: at the loops' heads), the contracts of what it calls; the blocks and the value that it ends with. -/
structure FC where
  P : Program
  B : Code
  n : Nat
  nt : Nat
  rs : List ResultVar
  live : List Nat
  cs : List Nat
  heads : List (List Nat × List Nat)
  tb : List (CE P)
  hp1 : Hp
  v : AV
def FC.post (C : FC) : Exit → St → Prop := EndOk C.P C.rs C.n C.hp1 C.v
def FC.At (C : FC) (p : List Nat) (σ : St) : Prop := AtB C.P C.n C.B C.post p σ
def FC.Fin (C : FC) (v : AV) (hp : Hp) : Prop := v = C.v ∧ hp = C.hp1

def resVE (P : Program) (rd : Operand → AV) (hp : Hp) : ResultVar → Option AV
  | .tmp t => some (rd (.tmp t))
  | .cell a t => match rd (.tmp a) with
    | .c c => loadA P hp t c
    | _ => none
def resPE (P : Program) (rd : Operand → AV) (hp : Hp) : List ResultVar → Option (List (CV ⊕ List CV))
  | [] => some []
  | r :: rs => match (resVE P rd hp r).bind avP, resPE P rd hp rs with
    | some p, some ps => some (p :: ps)
    | _, _ => none
def resE (P : Program) (rd : Operand → AV) (hp : Hp) : List ResultVar → Option AV
  | [r] => resVE P rd hp r
  | rs => (resPE P rd hp rs).map .tu
theorem resVE_eq {P : Program} {σ : St} : ∀ r, resVE P (ev σ.sl) σ.hp r = resAV P σ r := by intro r; cases r <;> rfl
theorem resPE_eq {P : Program} {σ : St} : ∀ rs, resPE P (ev σ.sl) σ.hp rs = resPs P σ rs := by
  intro rs
  induction rs with
  | nil => rfl
  | cons r rs ih => unfold resPE resPs; rw [ih, resVE_eq]; rfl
theorem resE_eq {P : Program} {σ : St} : ∀ rs, resE P (ev σ.sl) σ.hp rs = resA P σ rs := by
  intro rs
  cases rs with
  | nil => rfl
  | cons r rs => cases rs with
    | nil => exact resVE_eq r
    | cons r2 rs => exact congrArg (Option.map AV.tu) (resPE_eq _)
def eqL : List Nat → List Nat → Bool
  | [], [] => true
  | x :: l, y :: m => match Nat.beq x y with
    | true => eqL l m
    | false => false
  | _, _ => false
def headOf (p d : List Nat) : List (List Nat × List Nat) → List Nat
  | [] => d
  | (q, l) :: r => match eqL p q with
    | true => l
    | false => headOf p d r
section
variable {α : Type} (A : Alg α) (at_ : List Nat → Env → Hp → α) (fin : AV → Hp → α) (C : FC)
def frL (l : List Nat) (K : List Nat → α) : α :=
  match l with
  | [] => K []
  | x :: l => frL l fun l => K (x :: l)
def settle (lv : List Nat) (env : Env) (hp : Hp) (K : Env → Hp → α) : α :=
  frE (pickE C.nt env lv) fun e1 => frL (gcR C.n e1 hp) fun R =>
    match okR C.n hp R with
    | true => frE (reE R e1) fun e2 => frHp (blocksOf hp R R) fun h2 => frHp (pinGo (innE e2 h2) 0 h2) fun h3 => K e2 h3
    | false => A.bad
def finR (v : AV) (hp : Hp) : List Nat := reach hp 400 ((List.range C.n).flatMap (fun id => idB (hget hp id)) ++ idA v) (List.range C.n)
/-- A nil slice where the contract speaks of a row. -/
def nfC (hp1 : Hp) (c d : CV) (hp : Hp) : CV × Hp :=
  match c with
  | .v (.slice none 0 0) => match d with
    | .sl id _ => match hget hp1 id with
      | some (.row _ e _) => (.sl hp.length 0, hp ++ [some (.row true e [])])
      | _ => (c, hp)
    | _ => (c, hp)
  | _ => (c, hp)
def nfCs (hp1 : Hp) : List CV → List CV → Hp → List CV × Hp
  | c :: cs, d :: ds, hp => match nfC hp1 c d hp with
    | (c', hp') => match nfCs hp1 cs ds hp' with
      | (cs', hp'') => (c' :: cs', hp'')
  | cs, _, hp => (cs, hp)
def nfPs (hp1 : Hp) : List (CV ⊕ List CV) → List (CV ⊕ List CV) → Hp → List (CV ⊕ List CV) × Hp
  | .inl c :: cs, .inl d :: ds, hp => match nfC hp1 c d hp with
    | (c', hp') => match nfPs hp1 cs ds hp' with
      | (cs', hp'') => (.inl c' :: cs', hp'')
  | .inr c :: cs, .inr d :: ds, hp => match nfCs hp1 c d hp with
    | (c', hp') => match nfPs hp1 cs ds hp' with
      | (cs', hp'') => (.inr c' :: cs', hp'')
  | cs, _, hp => (cs, hp)
def nfA (hp1 : Hp) (v d : AV) (hp : Hp) : AV × Hp :=
  match v, d with
  | .c c, .c d => match nfC hp1 c d hp with
    | (c', hp') => (.c c', hp')
  | .ag cs, .ag ds => match nfCs hp1 cs ds hp with
    | (c', hp') => (.ag c', hp')
  | .tu cs, .tu ds => match nfPs hp1 cs ds hp with
    | (c', hp') => (.tu c', hp')
  | v, _ => (v, hp)
def finE (env : Env) (hp : Hp) : α :=
  match resE C.P (rdE C.nt env) hp C.rs with
  | some v => match nfA C.hp1 v C.v hp with
    | (v, hp) => frL (finR C v hp) fun R => match okR C.n hp R with
      | true => fin (reT R v) (blocksOf hp R R)
      | false => A.bad
  | none => A.bad
def goE (ev : List Nat → Env → Hp → α) (t : Tg) (env : Env) (hp : Hp) : α :=
  match t with
  | .to q => ev q env hp
  | .out .normal => finE A fin C env hp
  | .out .ret => finE A fin C env hp
  | _ => A.bad
def evC : Nat → List Nat → Env → Hp → α
  | 0, p, env, hp => at_ p env hp
  | k + 1, p, env, hp =>
    match subC p C.B with
    | .skip => goE A fin C (evC k) (tgt p C.B .normal) env hp
    | .label _ => goE A fin C (evC k) (tgt p C.B .normal) env hp
    | .region _ ops false => opsE A C.P C.tb C.nt ops ops.toList env hp fun env hp => settle A C C.cs env hp fun env hp => goE A fin C (evC k) (tgt p C.B .normal) env hp
    | .region _ ops true => match C.P.follows .mixedOrders with
      | true => drawE A C.P C.tb C.nt ops hp.length (fun env h' acc => match okDraw ops hp.length acc with
        | true => settle A C C.cs env h' fun env hp => goE A fin C (evC k) (tgt p C.B .normal) env hp
        | false => A.bad) 0 ops.toList env hp []
      | false => A.bad
    | .seq _ _ => evC k (p ++ [0]) env hp
    | .block _ _ => evC k (p ++ [0]) env hp
    | .scope _ => evC k (p ++ [0]) env hp
    | .cond o _ _ => match rdE C.nt env o with
      | .c (.v (.bool b)) => settle A C C.live env hp fun env hp => A.br b (evC k (p ++ [0]) env hp) (evC k (p ++ [1]) env hp)
      | _ => A.bad
    | .loop _ => settle A C (headOf p C.live C.heads) env hp fun env hp => at_ p env hp
    | .exit i => goE A fin C (evC k) (tgt p C.B (.exit i)) env hp
    | .ret => goE A fin C (evC k) (tgt p C.B .ret) env hp
    | _ => A.bad
end

variable {C : FC}
abbrev FC.st (C : FC) (env : Env) (hp : Hp) : St := ⟨mkS C.nt env, hp⟩
theorem frL_eq {α : Type} (l : List Nat) : ∀ (K : List Nat → α), frL l K = K l := by
  induction l with
  | nil => intro K; rfl
  | cons c l ih => intro K; unfold frL; rw [ih]
theorem post_ok : QOk C.post := by
  intro e σ h
  cases e with
  | normal => exact .inl rfl
  | exit i => exact .inr (.inl ⟨i, rfl⟩)
  | ret => exact .inr (.inr rfl)
  | _ => exact h.elim
theorem settle_sound {lv : List Nat} {env : Env} {hp : Hp} {K : Env → Hp → Prop} (h : settle PA C lv env hp K) : ∃ R env2 hp2, Wk C.n R (C.st env hp) (C.st env2 hp2) ∧ K env2 (pinGo (innE env2 hp2) 0 hp2) := by
  unfold settle at h
  rw [frE_eq, frL_eq] at h
  split at h
  · rename_i hok
    rw [frE_eq, frHp_eq, frHp_eq] at h
    exact ⟨_, _, _, gcE_wk hok, h⟩
  · exact h.elim
section
variable {P : Program} {B : Fr} {w0 : World} {a : Act} {w : World} {hp1 : Hp}
abbrev OnL (hp : Hp) : Nat → Prop := fun id => id < hp.length
def Nf (P : Program) (B : Fr) (w0 : World) (w : World) (hp hp' : Hp) (X X' : Gh → Prop) : Prop :=
  ∀ G, SRel P B w0 G ⟨[], hp⟩ ⟨#[], []⟩ w → X G → ∃ G', SRel P B w0 G' ⟨[], hp'⟩ ⟨#[], []⟩ w ∧ Stay G (OnL hp) w G' (OnL hp') w ∧ X' G'
theorem stay_refl {G : Gh} {On : Nat → Prop} : Stay G On w G On w := ⟨fun _ h => h, fun k hk => ⟨hk, rfl⟩, fun id _ => ⟨rfl, rfl, rfl, rfl, fun _ _ h => h⟩, fun _ _ _ _ _ _ h => h⟩
theorem stay_trans {G G' G'' : Gh} {On On' On'' : Nat → Prop} (h : Stay G On w G' On' w) (h' : Stay G' On' w G'' On'' w) : Stay G On w G'' On'' w := by
  refine ⟨fun id ho => h'.on id (h.on id ho), fun k hk => ⟨(h'.uo k (h.uo k hk).1).1, rfl⟩, fun id ho => ?_, fun id i j v ho hp hc => hc⟩
  obtain ⟨a1, a2, a3, a4, a5⟩ := h.gb id ho
  obtain ⟨b1, b2, b3, b4, b5⟩ := h'.gb id (h.on id ho)
  exact ⟨b1.trans a1, b2.trans a2, b3.trans a3, b4.trans a4, fun i j hh => a5 i j (b5 i j hh)⟩
theorem nfC_ok {c d : CV} {hp : Hp} {y : Value} : Nf P B w0 w hp (nfC hp1 c d hp).2 (fun G => Cr P G (OnL hp) w c y) (fun G => Cr P G (OnL (nfC hp1 c d hp).2) w (nfC hp1 c d hp).1 y) := by
  intro G hr hc
  have same : ∃ G', SRel P B w0 G' ⟨[], hp⟩ ⟨#[], []⟩ w ∧ Stay G (OnL hp) w G' (OnL hp) w ∧ Cr P G' (OnL hp) w c y := ⟨G, hr, stay_refl, hc⟩
  unfold nfC
  split
  · split
    · split
      · rename_i e _ _
        obtain ⟨G', h1, h2, h3⟩ := rel_nil hr e
        obtain ⟨rfl, _⟩ := hc
        exact ⟨G', h1, h2, h3⟩
      · exact same
    · exact same
  · exact same
theorem nfCs_ok : ∀ {cs ds : List CV} {hp : Hp} {ys : List Value}, Nf P B w0 w hp (nfCs hp1 cs ds hp).2 (fun G => All2 (Cr P G (OnL hp) w) cs ys) (fun G => All2 (Cr P G (OnL (nfCs hp1 cs ds hp).2) w) (nfCs hp1 cs ds hp).1 ys) := by
  intro cs
  induction cs with
  | nil => intro ds hp ys G hr hc; exact ⟨G, by simpa [nfCs] using hr, by simpa [nfCs] using stay_refl, by simpa [nfCs] using hc⟩
  | cons c cs ih =>
    intro ds hp ys G hr hc
    cases ds with
    | nil => exact ⟨G, by simpa [nfCs] using hr, by simpa [nfCs] using stay_refl, by simpa [nfCs] using hc⟩
    | cons d ds =>
      cases hc with
      | cons h0 ht =>
        obtain ⟨G1, r1, s1, c1⟩ := nfC_ok (hp1 := hp1) (d := d) G hr h0
        obtain ⟨G2, r2, s2, c2⟩ := ih (ds := ds) (hp := (nfC hp1 c d hp).2) G1 r1 (ht.imp fun _ _ h => h.stay s1)
        exact ⟨G2, r2, stay_trans s1 s2, .cons (c1.stay s2) c2⟩
theorem nfPs_ok : ∀ {cs ds : List (CV ⊕ List CV)} {hp : Hp} {ys : List Value}, Nf P B w0 w hp (nfPs hp1 cs ds hp).2 (fun G => All2 (Pr P G (OnL hp) w) cs ys) (fun G => All2 (Pr P G (OnL (nfPs hp1 cs ds hp).2) w) (nfPs hp1 cs ds hp).1 ys) := by
  intro cs
  induction cs with
  | nil => intro ds hp ys G hr hc; exact ⟨G, by simpa [nfPs] using hr, by simpa [nfPs] using stay_refl, by simpa [nfPs] using hc⟩
  | cons c cs ih =>
    intro ds hp ys G hr hc
    cases ds with
    | nil => exact ⟨G, by cases c <;> simpa [nfPs] using hr, by cases c <;> simpa [nfPs] using stay_refl, by cases c <;> simpa [nfPs] using hc⟩
    | cons d ds =>
      cases hc with
      | cons h0 ht =>
        cases c with
        | inl c => cases d with
          | inl d =>
            obtain ⟨G1, r1, s1, c1⟩ := nfC_ok (hp1 := hp1) (d := d) G hr h0
            obtain ⟨G2, r2, s2, c2⟩ := ih (ds := ds) (hp := (nfC hp1 c d hp).2) G1 r1 (ht.imp fun _ _ h => h.stay s1)
            exact ⟨G2, r2, stay_trans s1 s2, .cons (Cr.stay s2 c1) c2⟩
          | inr d => exact ⟨G, by simpa [nfPs] using hr, by simpa [nfPs] using stay_refl, by simpa [nfPs] using All2.cons h0 ht⟩
        | inr c => cases d with
          | inl d => exact ⟨G, by simpa [nfPs] using hr, by simpa [nfPs] using stay_refl, by simpa [nfPs] using All2.cons h0 ht⟩
          | inr d =>
            obtain ⟨vs, rfl, h0⟩ := h0
            obtain ⟨G1, r1, s1, c1⟩ := nfCs_ok (hp1 := hp1) (ds := d) G hr h0
            obtain ⟨G2, r2, s2, c2⟩ := ih (ds := ds) (hp := (nfCs hp1 c d hp).2) G1 r1 (ht.imp fun _ _ h => h.stay s1)
            exact ⟨G2, r2, stay_trans s1 s2, .cons ⟨vs, rfl, c1.imp fun _ _ h => h.stay s2⟩ c2⟩
theorem nfA_ok {v d : AV} {hp : Hp} {y : Value} : Nf P B w0 w hp (nfA hp1 v d hp).2 (fun G => Vr P G (OnL hp) w v y) (fun G => Vr P G (OnL (nfA hp1 v d hp).2) w (nfA hp1 v d hp).1 y) := by
  intro G hr hc
  unfold nfA
  split
  · exact nfC_ok G hr hc
  · obtain ⟨vs, rfl, hc⟩ := hc
    obtain ⟨G1, r1, s1, c1⟩ := nfCs_ok (hp1 := hp1) G hr hc
    exact ⟨G1, r1, s1, vs, rfl, c1⟩
  · obtain ⟨vs, rfl, hc⟩ := hc
    obtain ⟨G1, r1, s1, c1⟩ := nfPs_ok (hp1 := hp1) G hr hc
    exact ⟨G1, r1, s1, vs, rfl, c1⟩
  · exact ⟨G, hr, stay_refl, hc⟩
theorem nfA_imp {n : Nat} {v d : AV} {hp : Hp} : Imp P n ⟨[v], hp⟩ (fun σ => σ = ⟨[(nfA hp1 v d hp).1], (nfA hp1 v d hp).2⟩) := by
  intro B w0 G a w hn hr
  have hs := hr.sl
  obtain ⟨y, hy, hv⟩ : ∃ y, a.tmps.toList = [y] ∧ Vr P G (OnL hp) w v y := by
    generalize a.tmps.toList = l at hs
    cases hs with
    | cons h0 h1 => cases h1; exact ⟨_, rfl, h0⟩
  obtain ⟨G', r, s, hv'⟩ := nfA_ok (hp1 := hp1) (d := d) G (rel_act (sl := [v]) (sl' := []) hr (tmps := #[]) .nil) hv
  exact ⟨G', _, rfl, rel_act' (sl := []) r hr.df (by rw [hy]; exact .cons hv' .nil)⟩
end
theorem finE_sound {env : Env} {hp : Hp} (h : finE PA C.Fin C env hp) : ∃ v0, resA C.P (C.st env hp) C.rs = some v0 ∧ Imp C.P C.n ⟨[v0], hp⟩ (fun σ => σ = ⟨[C.v], C.hp1⟩) := by
  unfold finE at h
  rw [rdE_mk] at h
  have e := resE_eq (P := C.P) (σ := C.st env hp) C.rs
  rw [show resE C.P (ev (mkS C.nt env)) hp C.rs = resA C.P (C.st env hp) C.rs from e] at h
  split at h
  · rename_i v hv
    refine ⟨v, hv, fun B w0 G a w hn hr => ?_⟩
    obtain ⟨G1, σ1, rfl, hr1⟩ := nfA_imp (hp1 := C.hp1) (d := C.v) B w0 G a w hn hr
    revert h hr1
    generalize nfA C.hp1 v C.v hp = q
    obtain ⟨v1, hp2⟩ := q
    intro h hr1
    simp only [frL_eq] at h
    split at h
    · rename_i hok
      obtain ⟨h1, h2⟩ := h
      exact Imp.weaken (gcT_wk hok) (Imp.refl (by show (⟨[reT (finR C v1 hp2) v1], blocksOf hp2 (finR C v1 hp2) (finR C v1 hp2)⟩ : St) = _; rw [h1, h2])) B w0 G1 a w hn hr1
    · exact h.elim
  · exact h.elim
theorem goE_sound {ev : List Nat → Env → Hp → Prop} (hev : ∀ q env hp, ev q env hp → C.At q (C.st env hp)) {t : Tg} {env : Env} {hp : Hp} (h : goE PA C.Fin C ev t env hp) : TgOk C.P C.n C.B C.post (C.st env hp) t := by
  unfold goE at h
  split at h
  · exact hev _ _ _ h
  · exact finE_sound h
  · exact finE_sound h
  · exact h.elim
theorem Imp.repin {P : Program} {n : Nat} {σ : St} {Q : St → Prop} {inn : Nat → Bool} (hinn : ∀ id, innS id σ = true → inn id = true) (h : Imp P n (repin inn σ) Q) : Imp P n σ Q := fun B w0 G a w hn hr => by
  obtain ⟨G', hr'⟩ := Rel.repin hinn hr; exact h B w0 G' a w hn hr'
theorem AW.imp {P : Program} {n : Nat} {c : Code} {σ : St} {Q : St → Prop} {Q' : Exit → St → Prop} (h : AW P n c σ (fun e σ' => e = .normal ∧ Imp P n σ' Q)) (hq : ∀ σ, Q σ → Q' .normal σ) : AW P n c σ Q' := fun B w0 G a w hn hr =>
  wp_mono (h B w0 G a w hn hr) fun e a w ⟨G1, σ1, ⟨he, hi⟩, hr1⟩ => by
    subst he
    obtain ⟨G2, σ2, h2, hr2⟩ := hi B w0 G1 a w hn hr1
    exact ⟨G2, σ2, hq _ h2, hr2⟩
theorem settle_imp {lv : List Nat} {env : Env} {hp : Hp} {Q : St → Prop} {K : Env → Hp → Prop} (hK : ∀ env hp, K env hp → Q (C.st env hp)) (h : settle PA C lv env hp K) : Imp C.P C.n (C.st env hp) Q := by
  obtain ⟨R, env2, hp2, hw, hk⟩ := settle_sound h
  exact Imp.weaken hw (Imp.repin innE_ok (Imp.refl (hK _ _ hk)))
theorem settle_at {lv : List Nat} {p : List Nat} {env : Env} {hp : Hp} {K : Env → Hp → Prop} (hK : ∀ env hp, K env hp → C.At p (C.st env hp)) (h : settle PA C lv env hp K) : C.At p (C.st env hp) := by
  obtain ⟨R, env2, hp2, hw, hk⟩ := settle_sound h
  exact AW.weaken hw (AW.repin innE_ok (hK _ _ hk))
theorem aops_mono {P : Program} {ops : Array Oper} {K K' : List AV → Hp → Prop} (hk : ∀ sl hp, K sl hp → K' sl hp) : ∀ (l : List Oper) (sl : List AV) (hp : Hp), AOps P ops l sl hp K → AOps P ops l sl hp K' := by
  intro l
  induction l with
  | nil => intro sl hp h; exact hk _ _ h
  | cons o rest ih =>
    intro sl hp h
    unfold AOps at h ⊢
    split at h
    · exact aop_mono (fun v E T h => ih _ _ h) h
    · obtain ⟨t, h1, h2, h3⟩ := h
      exact ⟨t, h1, fun e => aop_mono (fun v E T h => ih _ _ h) (h2 e), fun e => ih _ _ (h3 e)⟩
theorem adraw_mono {P : Program} {ops : Array Oper} {base : Nat} {K K' : List AV → Hp → List (List Nat × List Nat) → Prop} (hk : ∀ sl hp acc, K sl hp acc → K' sl hp acc) : ∀ (l : List Oper) (i : Nat) (sl : List AV) (hp : Hp) (acc : List (List Nat × List Nat)), ADraw P ops base K i l sl hp acc → ADraw P ops base K' i l sl hp acc := by
  intro l
  induction l with
  | nil => intro i sl hp acc h; exact hk _ _ _ h
  | cons o rest ih =>
    intro i sl hp acc h
    unfold ADraw at h ⊢
    split at h
    · exact aop_mono (fun v E T h => ih _ _ _ _ h) h
    · obtain ⟨t, h1, h2, h3⟩ := h
      exact ⟨t, h1, fun e => aop_mono (fun v E T h => ih _ _ _ _ h) (h2 e), fun e => ih _ _ _ _ (h3 e)⟩
theorem at_regionI {P : Program} {n : Nat} {B : Code} {Q : Exit → St → Prop} {p : List Nat} {σ : St} {id : Nat} {ops : Array Oper} (hs : subC p B = .region id ops false) (h : AOps P ops ops.toList σ.sl σ.hp fun sl hp => Imp P n ⟨sl, hp⟩ fun σ' => TgOk P n B Q σ' (tgt p B .normal)) : AtB P n B Q p σ := by
  unfold AtB
  rw [hs]
  refine AW.imp (Q := fun σ' => TgOk P n B Q σ' (tgt p B .normal)) (AW.region ?_) fun σ h => tgt_sound _ _ _ _ _ h
  simpa using h
theorem at_drawI {P : Program} {n : Nat} {B : Code} {Q : Exit → St → Prop} {p : List Nat} {σ : St} {id : Nat} {ops : Array Oper} (hm : P.follows .mixedOrders = true) (hs : subC p B = .region id ops true)
    (h : ADraw P ops σ.hp.length (fun sl hp acc => okDraw ops σ.hp.length acc = true ∧ Imp P n ⟨sl, hp⟩ fun σ' => TgOk P n B Q σ' (tgt p B .normal)) 0 ops.toList σ.sl σ.hp []) : AtB P n B Q p σ := by
  unfold AtB
  rw [hs]
  refine AW.imp (Q := fun σ' => TgOk P n B Q σ' (tgt p B .normal)) (AW.draw hm ?_) fun σ h => tgt_sound _ _ _ _ _ h
  simpa using h
theorem evC_sound : ∀ (k : Nat) (p : List Nat) (env : Env) (hp : Hp), evC PA (fun p env hp => C.At p (C.st env hp)) C.Fin C k p env hp → C.At p (C.st env hp) := by
  intro k
  induction k with
  | zero => intro p env hp h; exact h
  | succ k ih =>
    intro p env hp h
    unfold evC at h
    split at h
    · rename_i hs
      refine at_end (e := .normal) ?_ (goE_sound ih h)
      rw [hs]; exact AW.skip ⟨rfl, rfl⟩
    · rename_i hs
      refine at_end (e := .normal) ?_ (goE_sound ih h)
      rw [hs]; exact AW.label ⟨rfl, rfl⟩
    · rename_i id ops hs
      refine at_regionI hs (opsE_sound (n := C.nt) (K' := fun env hp => settle PA C C.cs env hp fun env hp => goE PA C.Fin C (evC PA (fun p env hp => C.At p (C.st env hp)) C.Fin C k) (tgt p C.B .normal) env hp) (fun env hp h => ?_) _ _ _ h)
      exact settle_imp (fun env hp h => goE_sound ih h) h
    · rename_i id ops hs
      split at h
      · rename_i hm
        refine at_drawI hm hs (drawE_sound (n := C.nt) (fun env h' acc h => ?_) _ _ _ _ _ h)
        split at h
        · exact ⟨‹_›, settle_imp (fun env hp h => goE_sound ih h) h⟩
        · exact h.elim
      · exact h.elim
    · exact at_seq ‹_› (ih _ _ _ h)
    · exact at_block ‹_› (ih _ _ _ h)
    · exact at_scope ‹_› (ih _ _ _ h)
    · rename_i o x y hs
      split at h
      · rename_i b hb
        rw [rdE_mk] at hb
        obtain ⟨R, env2, hp2, hw, h⟩ := settle_sound h
        rcases brP_iff h with ⟨rfl, h⟩ | ⟨rfl, h⟩
        · exact at_cond hs hb (fun _ => AW.weaken hw (AW.repin innE_ok (ih _ _ _ h))) (fun e => by cases e)
        · exact at_cond hs hb (fun e => by cases e) (fun _ => AW.weaken hw (AW.repin innE_ok (ih _ _ _ h)))
      · exact h.elim
    · exact settle_at (fun env hp h => h) h
    · rename_i i hs
      refine at_end (e := .exit i) ?_ (goE_sound ih h)
      rw [hs]; exact AW.exit ⟨rfl, rfl⟩
    · rename_i hs
      refine at_end (e := .ret) ?_ (goE_sound ih h)
      rw [hs]; exact AW.ret ⟨rfl, rfl⟩
    · exact h.elim
/-- A place is reckoned: what comes out (X) is to be shown. -/
theorem FC.ev {p : List Nat} {n : Nat} {env : Env} {hp : Hp} (hn : C.nt = n) (k : Nat) {X : Prop} (h : evC PA (fun p env hp => C.At p ⟨mkS n env, hp⟩) C.Fin C k p env hp = X) (hX : X) : C.At p ⟨mkS n env, hp⟩ := by
  subst hn; exact evC_sound k p env hp (h ▸ hX)
/-- At a loop's head: one round. -/
theorem FC.loop {p : List Nat} {n : Nat} {env : Env} {hp : Hp} {x : Code} (hn : C.nt = n) (hs : subC p C.B = .loop x) (k : Nat) {X : Prop} (h : evC PA (fun p env hp => C.At p ⟨mkS n env, hp⟩) C.Fin C k (p ++ [0]) env hp = X) (hX : X) : C.At p ⟨mkS n env, hp⟩ := by
  subst hn; exact at_loop post_ok hs (evC_sound k _ env hp (h ▸ hX))
def isLoopC : Code → Bool
  | .loop _ => true
  | _ => false
theorem FC.loopB {p : List Nat} {n : Nat} {env : Env} {hp : Hp} (hn : C.nt = n) (hs : isLoopC (subC p C.B) = true) (k : Nat) {X : Prop} (h : evC PA (fun p env hp => C.At p ⟨mkS n env, hp⟩) C.Fin C k (p ++ [0]) env hp = X) (hX : X) : C.At p ⟨mkS n env, hp⟩ := by
  cases hc : subC p C.B with
  | loop x => exact C.loop hn hc k h hX
  | _ => rw [hc] at hs; cases hs
/-- A function's contract. -/
theorem FC.sem {f : Nat} {fn : Func} {hp0 : Hp} {xs : List AV} {m : Nat} {env : Env} (hf : C.P.funcs[f]? = some fn) (hb : fn.body = some C.B) (hnm : (fn.name == "runtime.NumGoroutine") = false) (hr : fn.results.toList = C.rs) (hm : fn.ntmps = xs.length + m) (hn : C.n = hp0.length)
    (he : xs ++ List.replicate m .no = mkS (xs.length + m) env) (h : C.At [] ⟨mkS (xs.length + m) env, hp0⟩) : FunSem C.P f hp0 xs C.hp1 C.v := by
  refine FunSem.of_body hf hb hnm hm ?_
  rw [← he] at h
  have h' : AW C.P C.n C.B ⟨xs ++ List.replicate m .no, hp0⟩ C.post := h
  rw [hn] at h'
  unfold FC.post at h'
  rw [hr, ← hn]
  rw [hn]
  have : EndOk C.P C.rs C.n C.hp1 C.v = EndOk C.P C.rs hp0.length C.hp1 C.v := by rw [hn]
  rwa [this] at h'
end Go.Proofs.Ytekdfddodabfcaa
/- The reckoner, part G: which slots live on between statements. -/
namespace Go.Proofs.Ytekdfddodabfcaa
open Go.RowKit
set_option linter.unusedVariables false
set_option linter.unusedSimpArgs false
noncomputable def bd (f : Func) : Code := f.body.getD .skip
def insN (x : Nat) : List Nat → List Nat
  | [] => [x]
  | y :: l => match Nat.beq x y, Nat.blt x y with
    | true, _ => y :: l
    | _, true => x :: y :: l
    | _, _ => y :: insN x l
def addOps (ops : List Operand) (written acc : List Nat) : List Nat :=
  ops.foldl (fun acc o => match o with
    | .tmp t => match memN t written with
      | true => acc
      | false => insN t acc
    | _ => acc) acc
/-- Slots that a statement reads and that it has not written. -/
def liveOps (all : Array Oper) : List Oper → List Nat → List Nat → List Nat
  | [], _, acc => acc
  | o :: l, wr, acc =>
    let acc := addOps (o.op.operands.toList ++ (match o.guard with
      | some (j, _) => match (all[j]?).bind (·.dst) with
        | some d => [.tmp d]
        | none => []
      | none => [])) wr acc
    liveOps all l (match o.dst with
      | some d => d :: wr
      | none => wr) acc
def liveC (cs : Bool) : Code → List Nat → List Nat
  | .region _ ops _, acc => liveOps ops ops.toList [] acc
  | .seq a b, acc => liveC cs b (liveC cs a acc)
  | .cond c a b, acc => liveC cs b (liveC cs a (if cs then addOps [c] [] acc else acc))
  | .block _ c, acc => liveC cs c acc
  | .loop c, acc => liveC cs c acc
  | .scope c, acc => liveC cs c acc
  | _, acc => acc
def liveOf (cs : Bool) (f : Func) : List Nat :=
  f.results.toList.foldl (fun acc r => match r with
    | .tmp t => insN t acc
    | .cell a _ => insN a acc) (liveC cs (f.body.getD .skip) [])
/-- The slots that are read from here on, and those at the loops' heads. -/
def lvU (a b : List Nat) : List Nat := a.foldl (fun acc x => insN x acc) b
def lvOps (ops : Array Oper) (out : List Nat) : List Nat := liveOps ops ops.toList [] (out.filter fun x => !(ops.toList.any fun o => o.dst == some x))
def lvX (i : Nat) : List (Nat × List Nat) → List Nat
  | [] => []
  | (j, l) :: r => if i = j then l else lvX i r
def lvC (ret : List Nat) : Code → List Nat → List (Nat × List Nat) → List Nat × List (List Nat × List Nat)
  | .region _ ops _, out, _ => (lvOps ops out, [])
  | .seq a b, out, ex =>
    let y := lvC ret b out ex
    let x := lvC ret a y.1 ex
    (x.1, x.2.map (fun h => (0 :: h.1, h.2)) ++ y.2.map (fun h => (1 :: h.1, h.2)))
  | .cond c a b, out, ex =>
    let x := lvC ret a out ex
    let y := lvC ret b out ex
    (addOps [c] [] (lvU x.1 y.1), x.2.map (fun h => (0 :: h.1, h.2)) ++ y.2.map (fun h => (1 :: h.1, h.2)))
  | .block id c, out, ex =>
    let x := lvC ret c out ((id, out) :: ex)
    (x.1, x.2.map (fun h => (0 :: h.1, h.2)))
  | .scope c, out, ex =>
    let x := lvC ret c out ex
    (x.1, x.2.map (fun h => (0 :: h.1, h.2)))
  | .loop c, out, ex =>
    let l1 := (lvC ret c [] ex).1
    let l2 := lvU l1 (lvC ret c l1 ex).1
    let l3 := lvU l2 (lvC ret c l2 ex).1
    let x := lvC ret c l3 ex
    (l3, ([], l3) :: x.2.map (fun h => (0 :: h.1, h.2)))
  | .exit i, _, ex => (lvX i ex, [])
  | .ret, _, _ => (ret, [])
  | _, out, _ => (out, [])
def headsOf (f : Func) : List (List Nat × List Nat) :=
  let ret := f.results.toList.foldl (fun acc r => match r with
    | .tmp t => insN t acc
    | .cell a _ => insN a acc) []
  (lvC ret (f.body.getD .skip) ret []).2
/-- The frame of a function's proof. -/
noncomputable def mkC (P : Program) (f : Func) (live cs : List Nat) (heads : List (List Nat × List Nat)) (tb : List (CE P)) (n : Nat) (hp1 : Hp) (v : AV) : FC := ⟨P, bd f, n, f.ntmps, f.results.toList, live, cs, heads, tb, hp1, v⟩
end Go.Proofs.Ytekdfddodabfcaa
/- The reckoner, part H: contracts of functions that only read what they are given. -/
namespace Go.Proofs.Ytekdfddodabfcaa
open Go.RowKit
set_option linter.unusedVariables false
set_option linter.unusedSimpArgs false

/-- An argument: one cell, or the cells of a struct. -/
inductive AS where
  | c (y : CS)
  | ag (xs : List CS)
def sC : AS := .c .x
/-- What a cell is lent as: its reading, what must hold, the blocks that are looked at. -/
def lendC1 (P : Program) (hp : Hp) (sh : CS) (c : CV) : Option (CV × List Prop × List (Nat × AB)) :=
  match sh, c with
  | .l e, .ro e' ls => match Nat.beq e e' with
    | true => some (.ro e' ls, [], [])
    | false => none
  | .l e, .v (.slice none 0 0) => some (.ro e [], [], [])
  | .l e, .sl id n => match hget hp id with
    | some (.row pn e' ls) => match Nat.beq e e' with
      | true => some (.ro e' ls, [n = ls.length], [(id, .row pn e' ls)])
      | false => none
    | _ => none
  | .l e, .sb id lo n => match hget hp id with
    | some (.row pn e' ls) => match Nat.beq e e' with
      | true => some (.ro e' ((ls.drop lo).take n), [0 < n ∨ lo = 0, lo + n ≤ ls.length], [(id, .row pn e' ls)])
      | false => none
    | _ => none
  | .l e, .inn id i k => match hget hp id with
    | some (.row true e0 ls) => match (elE P e0 ls i)[k]? with
      | some (.l e' l) => match Nat.beq e e' with
        | true => some (.ro e' l, [El P e0 ls i], [(id, .row true e0 ls)])
        | false => none
      | _ => none
    | _ => none
  | _, .v x => some (.v x, [], [])
  | _, _ => none
def lendCs1 (P : Program) (hp : Hp) : List CS → List CV → Option (List CV × List Prop × List (Nat × AB))
  | [], [] => some ([], [], [])
  | sh :: shs, c :: cs => match lendC1 P hp sh c, lendCs1 P hp shs cs with
    | some (y, p, T), some (ys, q, T') => some (y :: ys, p ++ q, T ++ T')
    | _, _ => none
  | _, _ => none
def lendA1 (P : Program) (hp : Hp) : AS → AV → Option (AV × List Prop × List (Nat × AB))
  | .c sh, .c c => match lendC1 P hp sh c with
    | some (y, p, T) => some (.c y, p, T)
    | none => none
  | .ag shs, .ag cs => match lendCs1 P hp shs cs with
    | some (ys, p, T) => some (.ag ys, p, T)
    | none => none
  | _, _ => none
def lendAs1 (P : Program) (hp : Hp) : List AS → List AV → Option (List AV × List Prop × List (Nat × AB))
  | [], [] => some ([], [], [])
  | sh :: shs, c :: cs => match lendA1 P hp sh c, lendAs1 P hp shs cs with
    | some (y, p, T), some (ys, q, T') => some (y :: ys, p ++ q, T ++ T')
    | _, _ => none
  | _, _ => none

section
variable {P : Program} {hp : Hp}
theorem andL_app : ∀ {l m : List Prop}, andL (l ++ m) → andL l ∧ andL m := by
  intro l
  induction l with
  | nil => intro m h; exact ⟨trivial, h⟩
  | cons p l ih => intro m h; obtain ⟨h1, h2⟩ := h; exact ⟨⟨h1, (ih h2).1⟩, (ih h2).2⟩
theorem LendC.mono {T T' : List (Nat × AB)} {H : List Nat} (hT : ∀ x ∈ T, x ∈ T') {c d : CV} (h : LendC T H c d) : LendC T' H c d := by
  cases d <;> cases c <;> first
    | exact h
    | trivial
    | (obtain ⟨h1, h2, pn, hm⟩ := h; exact ⟨h1, h2, pn, hT _ hm⟩)
    | (obtain ⟨h1, h2, pn, ls, hm, h3⟩ := h; exact ⟨h1, h2, pn, ls, hT _ hm, h3⟩)
    | (obtain ⟨h1, e, ls, cs, hm, h3⟩ := h; exact ⟨h1, e, ls, cs, hT _ hm, h3⟩)
    | (obtain ⟨h1, h2, pn, e, ls, hm, h3⟩ := h; exact ⟨h1, h2, pn, e, ls, hT _ hm, h3⟩)
theorem LendCs.mono {T T' : List (Nat × AB)} {H : List Nat} (hT : ∀ x ∈ T, x ∈ T') : ∀ {c d : List CV}, LendCs T H c d → LendCs T' H c d := by
  intro c
  induction c with
  | nil => intro d h; cases d <;> exact h
  | cons x c ih => intro d h; cases d with
    | nil => exact h
    | cons y d => exact ⟨h.1.mono hT, ih h.2⟩
theorem LendA.mono {T T' : List (Nat × AB)} {H : List Nat} (hT : ∀ x ∈ T, x ∈ T') {c d : AV} (h : LendA T H c d) : LendA T' H c d := by
  cases d <;> cases c <;> first | exact LendC.mono hT h | exact LendCs.mono hT h | trivial | exact h
theorem LendAs.mono {T T' : List (Nat × AB)} {H : List Nat} (hT : ∀ x ∈ T, x ∈ T') : ∀ {c d : List AV}, LendAs T H c d → LendAs T' H c d := by
  intro c
  induction c with
  | nil => intro d h; cases d <;> exact h
  | cons x c ih => intro d h; cases d with
    | nil => exact h
    | cons y d => exact ⟨h.1.mono hT, ih h.2⟩
theorem lendC1_sound {sh : CS} {c y : CV} {p : List Prop} {T : List (Nat × AB)} (h : lendC1 P hp sh c = some (y, p, T)) (hpp : andL p) : LendC T [] c y ∧ ∀ x ∈ T, hget hp x.1 = some x.2 := by
  unfold lendC1 at h
  split at h
  · split at h
    · injection h with h; injection h with h1 h; injection h with h2 h3; subst h1; subst h3; exact ⟨⟨rfl, rfl⟩, by simp⟩
    · cases h
  · injection h with h; injection h with h1 h; injection h with h2 h3; subst h1; subst h3; exact ⟨⟨rfl, rfl⟩, by simp⟩
  · split at h
    · rename_i hg
      split at h
      · injection h with h; injection h with h1 h; injection h with h2 h3; subst h1; subst h2; subst h3
        exact ⟨⟨by simp, hpp.1, _, List.mem_singleton.2 rfl⟩, by simpa using hg⟩
      · cases h
    · cases h
  · split at h
    · rename_i hg
      split at h
      · injection h with h; injection h with h1 h; injection h with h2 h3; subst h1; subst h2; subst h3
        exact ⟨⟨by simp, hpp.1, _, _, List.mem_singleton.2 rfl, hpp.2.1, rfl⟩, by simpa using hg⟩
      · cases h
    · cases h
  · split at h
    · rename_i hg
      split at h
      · rename_i hk
        split at h
        · injection h with h; injection h with h1 h; injection h with h2 h3; subst h1; subst h2; subst h3
          exact ⟨⟨by simp, _, _, _, List.mem_singleton.2 rfl, hpp.1, hk⟩, by simpa using hg⟩
        · cases h
      · cases h
    · cases h
  · injection h with h; injection h with h1 h; injection h with h2 h3; subst h1; subst h3; exact ⟨rfl, by simp⟩
  · cases h
theorem lendCs1_sound : ∀ {shs : List CS} {cs ys : List CV} {p : List Prop} {T : List (Nat × AB)}, lendCs1 P hp shs cs = some (ys, p, T) → andL p → LendCs T [] cs ys ∧ ∀ x ∈ T, hget hp x.1 = some x.2 := by
  intro shs
  induction shs with
  | nil =>
    intro cs ys p T h hpp
    cases cs with
    | nil => unfold lendCs1 at h; injection h with h; injection h with h1 h; injection h with h2 h3; subst h1; subst h3; exact ⟨trivial, by simp⟩
    | cons => cases h
  | cons sh shs ih =>
    intro cs ys p T h hpp
    cases cs with
    | nil => cases h
    | cons c cs =>
      unfold lendCs1 at h
      split at h
      · rename_i y p1 T1 ys1 q T2 h1 h2
        injection h with h; injection h with e1 h; injection h with e2 e3; subst e1; subst e2; subst e3
        obtain ⟨a1, a2⟩ := lendC1_sound h1 (andL_app hpp).1
        obtain ⟨b1, b2⟩ := ih h2 (andL_app hpp).2
        refine ⟨⟨a1.mono (by simp +contextual), b1.mono (by simp +contextual)⟩, fun x hx => ?_⟩
        rcases List.mem_append.1 hx with hx | hx
        · exact a2 x hx
        · exact b2 x hx
      · cases h
theorem lendA1_sound {sh : AS} {c y : AV} {p : List Prop} {T : List (Nat × AB)} (h : lendA1 P hp sh c = some (y, p, T)) (hpp : andL p) : LendA T [] c y ∧ ∀ x ∈ T, hget hp x.1 = some x.2 := by
  unfold lendA1 at h
  split at h
  · split at h
    · rename_i hl; injection h with h; injection h with e1 h; injection h with e2 e3; subst e1; subst e2; subst e3; exact lendC1_sound hl hpp
    · cases h
  · split at h
    · rename_i hl; injection h with h; injection h with e1 h; injection h with e2 e3; subst e1; subst e2; subst e3; exact lendCs1_sound hl hpp
    · cases h
  · cases h
theorem lendAs1_sound : ∀ {shs : List AS} {cs ys : List AV} {p : List Prop} {T : List (Nat × AB)}, lendAs1 P hp shs cs = some (ys, p, T) → andL p → LendAs T [] cs ys ∧ ∀ x ∈ T, hget hp x.1 = some x.2 := by
  intro shs
  induction shs with
  | nil =>
    intro cs ys p T h hpp
    cases cs with
    | nil => unfold lendAs1 at h; injection h with h; injection h with h1 h; injection h with h2 h3; subst h1; subst h3; exact ⟨trivial, by simp⟩
    | cons => cases h
  | cons sh shs ih =>
    intro cs ys p T h hpp
    cases cs with
    | nil => cases h
    | cons c cs =>
      unfold lendAs1 at h
      split at h
      · rename_i y p1 T1 ys1 q T2 h1 h2
        injection h with h; injection h with e1 h; injection h with e2 e3; subst e1; subst e2; subst e3
        obtain ⟨a1, a2⟩ := lendA1_sound h1 (andL_app hpp).1
        obtain ⟨b1, b2⟩ := ih h2 (andL_app hpp).2
        refine ⟨⟨a1.mono (by simp +contextual), b1.mono (by simp +contextual)⟩, fun x hx => ?_⟩
        rcases List.mem_append.1 hx with hx | hx
        · exact a2 x hx
        · exact b2 x hx
      · cases h
end
/-- A contract's use: of read arguments: what is needed; what comes back; the new blocks. -/
def pureRun (P : Program) (shs : List AS) (g : List AV → Option (List Prop × AV × Hp)) (hp : Hp) (nid : Nat) (xs : List AV) : Option (List Prop × AV × List (Nat × Option AB) × List (Nat × AB)) :=
  match lendAs1 P hp shs xs with
  | some (ys, p, T) => match g ys with
    | some (q, v, hp1) => match Nat.ble hp1.length 8 with
      | true => some (p ++ q, renA ((List.range hp1.length).map (nid + ·)) v, backE ((List.range hp1.length).map (nid + ·)) 0 0 ((List.range hp1.length).map (nid + ·)) hp1, T)
      | false => none
    | none => none
  | none => none
noncomputable def CE.pure {P : Program} (f : Nat) (shs : List AS) (g : List AV → Option (List Prop × AV × Hp)) (h : ∀ ys q v hp1, g ys = some (q, v, hp1) → andL q → FunSem P f [] ys hp1 v) : CE P where
  f := f
  run := pureRun P shs g
  ok := by
    intro hp nid xs p v E T hr hpp
    unfold pureRun at hr
    split at hr
    · rename_i ys p0 T0 hl
      split at hr
      · rename_i q v0 hp1 hg
        split at hr
        · rename_i hb
          injection hr with hr; injection hr with e1 hr; injection hr with e2 hr; injection hr with e3 e4
          subst e1; subst e2; subst e3; subst e4
          obtain ⟨h1, h2⟩ := lendAs1_sound hl (andL_app hpp).1
          refine ⟨?_, h2⟩
          exact (h ys q v0 hp1 hg (andL_app hpp).2).call (H := []) List.nodup_nil trivial h1 rfl (by simp) (by simp) (by simpa using Nat.le_of_ble_eq_true hb)
        · cases hr
      · cases hr
    · cases hr
end Go.Proofs.Ytekdfddodabfcaa
/- The reckoner, part I: small steps in what is left to show. -/
namespace Go.Proofs.Ytekdfddodabfcaa
open Go.RowKit
set_option linter.unusedVariables false
set_option linter.unusedSimpArgs false
section
variable {x y : Prop}
theorem brI {b : Bool} (h1 : b = true → x) (h2 : b = false → y) : brP b x y := by cases b; exact h2 rfl; exact h1 rfl
theorem brD {p : Prop} [Decidable p] (h1 : p → x) (h2 : ¬ p → y) : brP (decide p) x y := brI (fun h => h1 (of_decide_eq_true h)) (fun h => h2 (of_decide_eq_false h))
theorem brN {b : Bool} (h : brP b y x) : brP (!b) x y := by cases b <;> exact h
theorem brE {a b : Int} (h1 : a = b → x) (h2 : a ≠ b → y) : brP (a == b) x y := brI (fun h => h1 (by simpa using h)) (fun h => h2 (by simpa using h))
theorem brEn {a b : Int} (h1 : a ≠ b → x) (h2 : a = b → y) : brP (a != b) x y := brI (fun h => h1 (by simpa using h)) (fun h => h2 (by simpa using h))
theorem brS {a b : ByteArray} (h1 : a = b → x) (h2 : a ≠ b → y) : brP (a.toList == b.toList) x y := by
  have key : (a.toList == b.toList) = true ↔ a = b := by
    constructor
    · intro h
      have h : a.toList = b.toList := by simpa using h
      have e : ∀ s : ByteArray, s.toList = s.data.toList := fun s => ByteArray.toList_eq s
      rw [e, e] at h
      have : a.data = b.data := Array.ext' h
      cases a; cases b; simp_all
    · rintro rfl; simp
  refine brI (fun h => h1 (key.1 h)) (fun h => h2 fun e => ?_)
  rw [key.2 e] at h; cases h
theorem brEb {a b : Bool} (h1 : a = b → x) (h2 : a ≠ b → y) : brP (a == b) x y := brI (fun h => h1 (by simpa using h)) (fun h => h2 (by simpa using h))
end
theorem tf {b : Bool} (h1 : b = true) (h2 : b = false) : False := by rw [h1] at h2; cases h2
theorem wrI {n : Int} (h1 : -9223372036854775808 ≤ n) (h2 : n ≤ 9223372036854775807) : IntKind.i64.wrap n = n := by rw [IntKind.wrap_i64]; omega
theorem wrU {n : Int} (h1 : 0 ≤ n) (h2 : n ≤ 255) : IntKind.u8.wrap n = n := by rw [IntKind.wrap_u8]; omega
theorem finV {C : FC} {v : AV} {hp : Hp} (h1 : v = C.v) (h2 : hp = C.hp1) : C.Fin v hp := ⟨h1, h2⟩
theorem bv_eq {a b : Bool} (h : a = b) : bv a = bv b := by rw [h]
theorem iv_eq {a b : Int} (h : a = b) : iv a = iv b := by rw [h]
theorem sv_eq {a b : ByteArray} (h : a = b) : sv a = sv b := by rw [h]
/-- Less is said of a state at a place. -/
theorem FC.At.congr {C : FC} {p : List Nat} {σ σ' : St} (h : C.At p σ') (e : σ = σ') : C.At p σ := e ▸ h
end Go.Proofs.Ytekdfddodabfcaa
/- The reckoner, part J: rows of the right shape. -/
namespace Go.Proofs.Ytekdfddodabfcaa
open Go.RowKit
set_option linter.unusedVariables false
set_option linter.unusedSimpArgs false
def sh1 : CS → DV → Bool
  | .i k, .s (.int k' _) => decide (k = k')
  | .b, .s (.bool _) => true
  | .s, .s (.string _) => true
  | .l e, .l e' _ => Nat.beq e e'
  | .x, .no => true
  | _, _ => false
def shs : List CS → List DV → Bool
  | [], [] => true
  | c :: cs, d :: ds => sh1 c d && shs cs ds
  | _, _ => false
/-- Every element has its type's cells. -/
def Shp (P : Program) (e : Nat) (ls : List (List DV)) : Prop := ∀ cs ∈ ls, shs (shapeT P e) cs = true

section
variable {P : Program} {e : Nat} {ls ms : List (List DV)}
def nrm : CS → DV → DV
  | .i k, d => .s (.int k (dI d))
  | .b, d => .s (.bool (dB d))
  | .s, d => .s (.string (dS d))
  | .l e, d => .l e (dL d)
  | .x, _ => .no
theorem sh1_nrm {c : CS} {d : DV} (h : sh1 c d = true) : nrm c d = d := by
  cases d with
  | s v => cases c <;> cases v <;> simp only [sh1, reduceCtorEq, decide_eq_true_eq, Bool.false_eq_true] at h <;> first | (subst h; rfl) | rfl
  | l e' l => cases c <;> simp only [sh1, reduceCtorEq, Bool.false_eq_true] at h; obtain rfl := Nat.eq_of_beq_eq_true h; rfl
  | no => cases c <;> simp only [sh1, reduceCtorEq, Bool.false_eq_true] at h; rfl
theorem elGo_cons {ls : List (List DV)} {i j : Nat} {c : CS} {sh : List CS} : elGo ls i j (c :: sh) = nrm c (cD ls i j) :: elGo ls i (j + 1) sh := by cases c <;> rfl
theorem elGo_of {ls : List (List DV)} {i : Nat} {ds : List DV} (h : ls[i]? = some ds) : ∀ (sh : List CS) (cs : List DV) (j : Nat), shs sh cs = true → cs = ds.drop j → elGo ls i j sh = cs := by
  intro sh
  induction sh with
  | nil => intro cs j hs hd; cases cs with
    | nil => rfl
    | cons => simp [shs] at hs
  | cons c sh ih =>
    intro cs j hs hd
    cases cs with
    | nil => simp [shs] at hs
    | cons d cs =>
      simp only [shs, Bool.and_eq_true] at hs
      have hj : ds[j]? = some d := by
        have : (ds.drop j)[0]? = some d := by rw [← hd]; rfl
        simpa using this
      have hr : cs = ds.drop (j + 1) := by
        have : (ds.drop j).drop 1 = cs := by rw [← hd]; rfl
        rw [← this, List.drop_drop]
      have hcd : cD ls i j = d := by simp [cD, List.getD_eq_getElem?_getD, h, hj]
      rw [elGo_cons, ih cs (j + 1) hs.2 hr, hcd, sh1_nrm hs.1]
theorem el_of {i : Nat} {cs : List DV} (h : ls[i]? = some cs) (hs : shs (shapeT P e) cs = true) : El P e ls i := by
  unfold El elE
  rw [elGo_of h _ cs 0 hs rfl, h]
theorem Shp.el (h : Shp P e ls) {i : Nat} (hi : i < ls.length) : El P e ls i :=
  el_of (List.getElem?_eq_getElem hi) (h _ (List.getElem_mem hi))
theorem Shp.nil : Shp P e [] := by intro cs h; cases h
theorem Shp.append (h : Shp P e ls) (h' : Shp P e ms) : Shp P e (ls ++ ms) := by
  intro cs hc; rcases List.mem_append.1 hc with hc | hc
  · exact h cs hc
  · exact h' cs hc
theorem Shp.one {cs : List DV} (h : shs (shapeT P e) cs = true) : Shp P e [cs] := by
  intro c hc; simp at hc; subst hc; exact h
theorem Shp.set (h : Shp P e ls) {i : Nat} {cs : List DV} (hs : shs (shapeT P e) cs = true) : Shp P e (ls.set i cs) := by
  intro c hc; rcases List.mem_or_eq_of_mem_set hc with hc | rfl
  · exact h c hc
  · exact hs
theorem Shp.replicate {n : Nat} {cs : List DV} (hs : shs (shapeT P e) cs = true) : Shp P e (List.replicate n cs) := by
  intro c hc; rw [List.eq_of_mem_replicate hc]; exact hs
theorem Shp.take (h : Shp P e ls) (n : Nat) : Shp P e (ls.take n) := fun c hc => h c (List.mem_of_mem_take hc)
theorem Shp.drop (h : Shp P e ls) (n : Nat) : Shp P e (ls.drop n) := fun c hc => h c (List.mem_of_mem_drop hc)
end
end Go.Proofs.Ytekdfddodabfcaa
/- The reckoner, part K: measures of rows, rows that are copied element by element. -/
namespace Go.Proofs.Ytekdfddodabfcaa
open Go.RowKit
set_option linter.unusedVariables false
set_option linter.unusedSimpArgs false
/-- What is left of a measure: -1 once it is used up. -/
def szN : List Nat → Int → Int
  | [], l => l
  | n :: r, l => if l - n < 0 then -1 else szN r (l - n)
def szC (js : List Nat) (c : List DV) : List Nat := js.map fun j => (dS (c.getD j .no)).size
def szRows (js : List Nat) : List (List DV) → Int → Int
  | [], l => l
  | c :: r, l => if szN (szC js c) l < 0 then -1 else szRows js r (szN (szC js c) l)
def szS (js : List Nat) (ls : List (List DV)) (left : Int) : Int := if left - ls.length < 0 then -1 else szRows js ls (left - ls.length)
/-- Strings that a machine can hold. -/
def StrB (js : List Nat) (ls : List (List DV)) : Prop := ∀ i, i < ls.length → ∀ j, j ∈ js → (cS ls i j).size ≤ 9223372036854775807
theorem szN_le : ∀ (ns : List Nat) (l : Int), szN ns l < 0 ∨ szN ns l ≤ l := by
  intro ns
  induction ns with
  | nil => intro l; right; exact Int.le_refl _
  | cons n ns ih =>
    intro l
    unfold szN
    split
    · left; omega
    · rcases ih (l - n) with h | h
      · exact .inl h
      · right; omega
theorem szN_sum {ns : List Nat} : ∀ {l : Int}, 0 ≤ szN ns l → ∀ n ∈ ns, (n : Int) ≤ l := by
  induction ns with
  | nil => intro l _ n hn; cases hn
  | cons m ns ih =>
    intro l h n hn
    unfold szN at h
    split at h
    · omega
    · have hle := szN_le ns (l - m)
      rcases List.mem_cons.1 hn with rfl | hn
      · omega
      · have := ih h n hn; omega
theorem szRows_drop (js : List Nat) {ls : List (List DV)} {k : Nat} (hk : k < ls.length) (l : Int) :
    szRows js (ls.drop k) l = if szN (js.map fun j => (cS ls k j).size) l < 0 then -1 else szRows js (ls.drop (k + 1)) (szN (js.map fun j => (cS ls k j).size) l) := by
  rw [List.drop_eq_getElem_cons hk]
  have e : szC js ls[k] = js.map fun j => (cS ls k j).size := by
    unfold szC cS cD
    simp [List.getD_eq_getElem?_getD, List.getElem?_eq_getElem hk]
  simp only [szRows, e]
theorem szRows_ok (js : List Nat) {ls : List (List DV)} : ∀ {l : Int}, 0 ≤ szRows js ls l → szRows js ls l ≤ l ∧ ∀ c ∈ ls, ∀ n ∈ szC js c, (n : Int) ≤ l := by
  induction ls with
  | nil => intro l h; exact ⟨Int.le_refl _, by simp⟩
  | cons c ls ih =>
    intro l h
    unfold szRows at h ⊢
    split at h
    · omega
    · rename_i hn
      rw [if_neg hn]
      obtain ⟨h1, h2⟩ := ih h
      have hle := szN_le (szC js c) l
      refine ⟨by omega, fun d hd n hnn => ?_⟩
      rcases List.mem_cons.1 hd with rfl | hd
      · exact szN_sum (by omega) n hnn
      · have := h2 d hd n hnn; omega
theorem szS_ok {js : List Nat} {ls : List (List DV)} {l : Int} (h : 0 ≤ szS js ls l) : szS js ls l ≤ l ∧ (ls.length : Int) ≤ l ∧ ∀ i, i < ls.length → ∀ j, j ∈ js → ((cS ls i j).size : Int) ≤ l := by
  unfold szS at h ⊢
  split at h
  · omega
  · rename_i hn
    rw [if_neg hn]
    obtain ⟨h1, h2⟩ := szRows_ok js h
    refine ⟨by omega, by omega, fun i hi j hj => ?_⟩
    have := h2 ls[i] (List.getElem_mem hi) (cS ls i j).size (by
      unfold szC
      refine List.mem_map.2 ⟨j, hj, ?_⟩
      simp [cS, cD, List.getD_eq_getElem?_getD, List.getElem?_eq_getElem hi])
    omega
/-- One more element is copied. -/
theorem set_step {P : Program} {e : Nat} {ls ms : List (List DV)} {i : Int} {j : Nat} {cs : List DV} (hlen : ms.length = ls.length) (hms : ∀ j, j < i.toNat → ms[j]? = ls[j]?) (hi : i.toNat < ls.length) (hj : j < i.toNat + 1) (hel : El P e ls i.toNat) (hcs : elE P e ls i.toNat = cs := by kernel_rfl) :
    (ms.set i.toNat cs)[j]? = ls[j]? := by
  by_cases h : j = i.toNat
  · subst h
    unfold El at hel
    rw [List.getElem?_set_self (by omega), hel, hcs]
  · rw [List.getElem?_set_ne (by omega)]; exact hms j (by omega)
end Go.Proofs.Ytekdfddodabfcaa
