/- The engine, part Zb: a function's contract from its body. -/
import Derived.Test.YtekdfddodabfcaaRd
import Derived.Laws.Sem
namespace Go.Proofs.Ytekdfddodabfcaa
open Go.RowKit
set_option linter.unusedVariables false
set_option linter.unusedSimpArgs false

/-- What a variable at an address reads as. -/
def loadA (P : Program) (hp : Hp) (t : TypeId) (c : CV) : Option AV :=
  match aggT P t with
  | some false => match cellsAt hp c 1 with
    | some [d] => some (.c d)
    | _ => none
  | some true => if szT P t = 0 then none else (cellsAt hp c (szT P t)).map .ag
  | none => none
def resAV (P : Program) (σ : St) : ResultVar → Option AV
  | .tmp t => some (ev σ.sl (.tmp t))
  | .cell a t => match ev σ.sl (.tmp a) with
    | .c c => loadA P σ.hp t c
    | _ => none
def avP : AV → Option (CV ⊕ List CV)
  | .c x => some (.inl x)
  | .ag xs => some (.inr xs)
  | _ => none
def resPs (P : Program) (σ : St) : List ResultVar → Option (List (CV ⊕ List CV))
  | [] => some []
  | r :: rs => match (resAV P σ r).bind avP, resPs P σ rs with
    | some p, some ps => some (p :: ps)
    | _, _ => none
def resA (P : Program) (σ : St) : List ResultVar → Option AV
  | [r] => resAV P σ r
  | rs => (resPs P σ rs).map .tu

section
variable {P : Program} {G G' : Gh} {On On' : Nat → Prop} {w w' : World} {B : Fr} {w0 : World} {σ σ' : St} {a : Act} {sl : List AV} {hp hp0 hp1 : Hp}

theorem run_loadA {t : TypeId} {c : CV} {y : Value} {v : AV} (h : Rel P B w0 G On ⟨sl, hp⟩ a w) (hc : Cr P G On w c y) (hl : loadA P hp t c = some v) :
    ∃ x, (do loadVar t (← asAddr y) : Sem Value).run P w = .ok x w ∧ Vr P G On w v x := by
  unfold loadA at hl
  split at hl
  · rename_i hag
    split at hl
    · rename_i d hd
      injection hl with hl; subst hl
      obtain ⟨ad, rfl, vs, hlen, hall, hcell⟩ := cellsAt_sound h hc hd (looks_self c)
      obtain ⟨v, hv0, hdv⟩ := hall.get 0 d rfl
      have := hcell 0 v hv0
      rw [Addr.add_zero'] at this
      exact ⟨v, by simp [asAddr, loadVar, run_isAgg hag, this], hdv⟩
    · cases hl
  · rename_i hag
    split at hl
    · cases hl
    · rename_i hz
      simp only [Option.map_eq_some_iff] at hl
      obtain ⟨ds, hd, rfl⟩ := hl
      obtain ⟨ad, rfl, vs, hlen, hall, hcell⟩ := cellsAt_sound h hc hd (looks_self c)
      have := run_loadCells_list (P := P) w ad vs hcell
      rw [hlen] at this
      exact ⟨.agg vs.toArray, by simp [asAddr, loadVar, run_isAgg hag, run_sizeOf rfl hz, this], vs.toArray, rfl, by simpa using hall⟩
  · cases hl

def res1 (tmps : Array Value) : ResultVar → Sem Value
  | .tmp t => pure (tmps.getD t undef)
  | .cell a t => do loadVar t (← asAddr (tmps.getD a undef))
theorem run_res1 (h : Rel P B w0 G On σ a w) {r : ResultVar} {v : AV} (hr : resAV P σ r = some v) : ∃ x, (res1 a.tmps r).run P w = .ok x w ∧ Vr P G On w v x := by
  cases r with
  | tmp t =>
    injection hr with hr; subst hr
    exact ⟨_, rfl, ev_sound (sl := σ.sl) (hp := σ.hp) h (.tmp t)⟩
  | cell ad t =>
    simp only [resAV] at hr
    split at hr
    · rename_i c hc
      have := ev_sound (sl := σ.sl) (hp := σ.hp) h (.tmp ad)
      rw [hc] at this
      exact run_loadA (sl := σ.sl) (hp := σ.hp) h this hr
    · cases hr
theorem pr_of_vr {v : AV} {p : CV ⊕ List CV} {x : Value} (hp : avP v = some p) (h : Vr P G On w v x) : Pr P G On w p x := by
  cases v <;> simp only [avP] at hp <;> first | (injection hp with hp; subst hp; exact h) | cases hp
theorem run_resPs (h : Rel P B w0 G On σ a w) : ∀ {rs : List ResultVar} {ps : List (CV ⊕ List CV)}, resPs P σ rs = some ps → ∃ xs, (rs.mapM (res1 a.tmps)).run P w = .ok xs w ∧ All2 (Pr P G On w) ps xs := by
  intro rs
  induction rs with
  | nil => intro ps hp; injection hp with hp; subst hp; exact ⟨[], rfl, .nil⟩
  | cons r rs ih =>
    intro ps hp
    simp only [resPs] at hp
    split at hp
    · rename_i p ps' h1 h2
      injection hp with hp; subst hp
      simp only [Option.bind_eq_some_iff] at h1
      obtain ⟨v, hv, hvp⟩ := h1
      obtain ⟨x, hx, hxr⟩ := run_res1 h hv
      obtain ⟨xs, hxs, hxsr⟩ := ih h2
      exact ⟨x :: xs, by simp [List.mapM_cons, hx, hxs], .cons (pr_of_vr hvp hxr) hxsr⟩
    · cases hp
theorem run_resA (h : Rel P B w0 G On σ a w) {fn : Func} {v : AV} (hr : resA P σ fn.results.toList = some v) : ∃ x, (results fn a.tmps).run P w = .ok x w ∧ Vr P G On w v x := by
  have hfold : results fn a.tmps = (do let vs ← fn.results.mapM (res1 a.tmps); pure (if h : vs.size = 1 then vs[0] else .tuple vs)) := by
    unfold results
    congr 2
  rw [hfold, Array.mapM_eq_mapM_toList]
  generalize fn.results.toList = rs at hr
  by_cases h1 : ∃ r, rs = [r]
  · obtain ⟨r, rfl⟩ := h1
    obtain ⟨x, hx, hxr⟩ := run_res1 h (show resAV P σ r = some v from hr)
    exact ⟨x, by simp [hx], hxr⟩
  · have hr' : (resPs P σ rs).map AV.tu = some v := by
      unfold resA at hr
      split at hr
      · exact absurd ⟨_, rfl⟩ h1
      · exact hr
    simp only [Option.map_eq_some_iff] at hr'
    obtain ⟨ps, hps, rfl⟩ := hr'
    obtain ⟨xs, hxs, hxr⟩ := run_resPs h hps
    have hlen : xs.length ≠ 1 := by
      intro he
      have : ∀ {rs : List ResultVar} {ps : List (CV ⊕ List CV)}, resPs P σ rs = some ps → ps.length = rs.length := by
        intro rs
        induction rs with
        | nil => intro ps hp; injection hp with hp; subst hp; rfl
        | cons r rs ih =>
          intro ps hp
          simp only [resPs] at hp
          split at hp
          · rename_i p ps' h1 h2
            injection hp with hp; subst hp; simp [ih h2]
          · cases hp
      have hl := this hps
      rw [hxr.len, he] at hl
      exact h1 (List.length_eq_one_iff.1 hl.symm)
    exact ⟨.tuple xs.toArray, by simp [hxs, hlen], xs.toArray, rfl, by simpa using hxr⟩

theorem rel_act (h : Rel P B w0 G On ⟨sl, hp⟩ a w) {sl' : List AV} {tmps : Array Value} (hs : All2 (Vr P G On w) sl' tmps.toList) : Rel P B w0 G On ⟨sl', hp⟩ { tmps := tmps, defers := [] } w :=
  ⟨h.bel, h.base, hs, h.hp, h.own, h.dead, h.dis, rfl, h.an⟩
theorem rel_act' (h : Rel P B w0 G On ⟨sl, hp⟩ a w) {sl' : List AV} {a' : Act} (hd : a'.defers = []) (hs : All2 (Vr P G On w) sl' a'.tmps.toList) : Rel P B w0 G On ⟨sl', hp⟩ a' w :=
  ⟨h.bel, h.base, hs, h.hp, h.own, h.dead, h.dis, hd, h.an⟩

/-- What a state may also be described as. -/
def Imp (P : Program) (n : Nat) (σ : St) (Q : St → Prop) : Prop := ∀ (B : Fr) (w0 : World) (G : Gh) (a : Act) (w : World), B.n = n → SRel P B w0 G σ a w → ∃ G' σ', Q σ' ∧ SRel P B w0 G' σ' a w
theorem Imp.refl {P : Program} {n : Nat} {σ : St} {Q : St → Prop} (h : Q σ) : Imp P n σ Q := fun _ _ G _ _ _ hr => ⟨G, σ, h, hr⟩
theorem Imp.weaken {P : Program} {n : Nat} {σ σ' : St} {Q : St → Prop} {R : List Nat} (hw : Wk n R σ σ') (h : Imp P n σ' Q) : Imp P n σ Q := fun B w0 G a w hn hr => by
  obtain ⟨G', hr'⟩ := hr.weaken (hn ▸ hw); exact h B w0 G' a w hn hr'
/-- A nil slice is a row without elements. -/
theorem rel_nil (hr : SRel P B w0 G ⟨sl, hp⟩ a w) (e : Nat) : ∃ G', SRel P B w0 G' ⟨sl, hp ++ [some (.row true e [])]⟩ a w ∧ Stay G (fun id => id < hp.length) w G' (fun id => id < (hp ++ [some (AB.row true e [])]).length) w ∧
    Cr P G' (fun id => id < (hp ++ [some (AB.row true e [])]).length) w (.sl hp.length 0) (.slice none 0 0) := by
  have hlen : (hp ++ [some (AB.row true e [])]).length = hp.length + 1 := by simp
  have hs : Stay G (fun id => id < hp.length) w (G.upd hp.length ⟨0, true, 0, szT P e, fun _ => False, fun _ _ => False⟩) (fun id => id < (hp ++ [some (AB.row true e [])]).length) w := by
    refine ⟨fun id h => by show id < _; rw [hlen]; exact Nat.lt_succ_of_lt h, fun k hk => ⟨⟨hk.1, fun id hS => ?_⟩, rfl⟩, fun id h => ?_, fun id i j v ho hp hc => hc⟩
    · by_cases hid : id = hp.length
      · subst hid; simp at hS
      · rw [Gh.upd_ne _ _ hid] at hS; exact hk.2 id hS
    · rw [Gh.upd_ne _ _ (Nat.ne_of_lt h)]; exact ⟨rfl, rfl, rfl, rfl, fun _ _ h => h⟩
  have hgl : ∀ id, id < hp.length → hget (hp ++ [some (AB.row true e [])]) id = hget hp id := fun id h => by simp [hget, List.getElem?_append_left h]
  refine ⟨_, hr.turn hs (Kept.refl _ _) (fun id blk hb => ?_) (fun id k hS => ?_) (fun id hd => ?_) (fun id id' k h1 h2 => ?_), hs, ⟨by show hp.length < (hp ++ [some (AB.row true e [])]).length; rw [hlen]; omega, by rw [Gh.upd_same]; rfl⟩⟩
  · by_cases hlt : id < hp.length
    · rw [hgl id hlt] at hb
      rw [Gh.upd_ne _ _ (Nat.ne_of_lt hlt)]
      exact ⟨by show id < (hp ++ [some (AB.row true e [])]).length; rw [hlen]; omega, (hr.hp id blk hb).2.stay hs fun _ _ => rfl⟩
    · by_cases heq : id = hp.length
      · subst heq
        have hb' : some (AB.row true e []) = some blk := by
          rw [← hb]; simp [hget]
        cases hb'
        rw [Gh.upd_same]
        refine ⟨by show hp.length < (hp ++ [some (AB.row true e [])]).length; rw [hlen]; omega, rfl, .nil, fun i j => ⟨fun h => h.elim, fun ⟨_, cs, e, ls', h, _⟩ => by simp at h⟩⟩
      · have : hget (hp ++ [some (AB.row true e [])]) id = none := by
          unfold hget; rw [List.getElem?_eq_none (by rw [hlen]; omega)]; rfl
        rw [this] at hb; cases hb
  · by_cases hid : id = hp.length
    · subst hid; simp at hS
    · rw [Gh.upd_ne _ _ hid] at hS; exact hr.own id k hS
  · by_cases hid : id = hp.length
    · subst hid; simp
    · rw [Gh.upd_ne _ _ hid]
      refine hr.dead id ?_
      by_cases hlt : id < hp.length
      · rw [hgl id hlt] at hd; exact hd
      · (have : hp.length ≤ id := Nat.le_of_not_lt hlt); unfold hget; rw [List.getElem?_eq_none this]; rfl
  · by_cases hid : id = hp.length
    · subst hid; simp at h1
    · by_cases hid' : id' = hp.length
      · subst hid'; simp at h2
      · rw [Gh.upd_ne _ _ hid] at h1
        rw [Gh.upd_ne _ _ hid'] at h2
        exact hr.dis id id' k h1 h2

/-- How a body may end. -/
def EndOk (P : Program) (rs : List ResultVar) (n : Nat) (hp1 : Hp) (v : AV) : Exit → St → Prop
  | .normal, σ => ∃ v0, resA P σ rs = some v0 ∧ Imp P n ⟨[v0], σ.hp⟩ (fun σ' => σ' = ⟨[v], hp1⟩)
  | .ret, σ => ∃ v0, resA P σ rs = some v0 ∧ Imp P n ⟨[v0], σ.hp⟩ (fun σ' => σ' = ⟨[v], hp1⟩)
  | _, _ => False

theorem FunSem.of_body {f : Nat} {fn : Func} {c : Code} {xs : List AV} {v : AV} {m : Nat} (hf : P.funcs[f]? = some fn) (hb : fn.body = some c) (hnm : (fn.name == "runtime.NumGoroutine") = false) (hm : fn.ntmps = xs.length + m)
    (h : AW P hp0.length c ⟨xs ++ List.replicate m .no, hp0⟩ (EndOk P fn.results.toList hp0.length hp1 v)) : FunSem P f hp0 xs hp1 v := by
  refine ⟨⟨fn, hf, by simp [hb], hnm⟩, fun B w0 G a w hn hr vs hvs => ?_⟩
  have hlen : vs.toArray.size = xs.length := by simp [hvs.len]
  refine calls_of_wp hf hb ?_
  have hbegin : SRel P B w0 G ⟨xs ++ List.replicate m .no, hp0⟩ { tmps := vs.toArray ++ Array.replicate (fn.ntmps - vs.toArray.size) undef, defers := [] } w := by
    refine rel_act (sl := []) hr ?_
    rw [show fn.ntmps - vs.toArray.size = m by omega]
    simp only [Array.toList_append, Array.toList_replicate]
    refine hvs.append ?_
    clear hm h
    induction m with
    | zero => exact .nil
    | succ m ih => exact .cons trivial ih
  refine wp_mono (h B w0 G _ w hn hbegin) fun e a' w' ⟨G', σ', hQ, hr'⟩ => ?_
  have hend : ∀ σ' : St, SRel P B w0 G' σ' a' w' → (∃ v0, resA P σ' fn.results.toList = some v0 ∧ Imp P hp0.length ⟨[v0], σ'.hp⟩ (fun σ' => σ' = ⟨[v], hp1⟩)) →
      a'.defers = [] ∧ ∃ x, (results fn a'.tmps).run P w' = .ok x w' ∧ ∃ y G', Ending.returned x = .returned y ∧ SRel P B w0 G' ⟨[], hp1⟩ a w' ∧ Vr P G' (fun id => id < hp1.length) w' v y := by
    rintro σ' hr' ⟨v0, hres, himp⟩
    refine ⟨hr'.df, ?_⟩
    obtain ⟨x, hx, hxr⟩ := run_resA hr' hres
    have h1 : SRel P B w0 G' ⟨[v0], σ'.hp⟩ { tmps := #[x], defers := [] } w' := rel_act (sl := σ'.sl) hr' (.cons hxr .nil)
    obtain ⟨G'', σ2, rfl, h2⟩ := himp B w0 G' _ w' hn h1
    refine ⟨x, hx, x, G'', rfl, rel_act' (sl := [v]) h2 hr.df ?_, ?_⟩
    · have : a.tmps.toList = [] := by
        have := hr.sl
        generalize a.tmps.toList = l at this
        cases this; rfl
      rw [this]; exact .nil
    · have := h2.sl
      cases this with
      | cons h _ => exact h
  cases e with
  | normal => exact hend σ' hr' hQ
  | ret => exact hend σ' hr' hQ
  | _ => exact hQ.elim
end
end Go.Proofs.Ytekdfddodabfcaa
/- The engine, part Zc: steps. -/
namespace Go.Proofs.Ytekdfddodabfcaa
open Go.RowKit
set_option linter.unusedVariables false
set_option linter.unusedSimpArgs false

abbrev iv (n : Int) : AV := .c (.v (.int .i64 n))
abbrev bv (b : Bool) : AV := .c (.v (.bool b))
abbrev sv (s : ByteArray) : AV := .c (.v (.string s))

section
variable {P : Program} {ops : Array Oper} {rest : List Oper} {sl : List AV} {hp : Hp} {K : List AV → Hp → Prop} {d : Option Nat} {ty : TypeId} {pos : String} {af : Array Edge}

theorem vG {op : Op} {j : Nat} {want t : Bool} (hg : guardA ops sl j want = some t) (h1 : t = true → AOps P ops (⟨d, op, ty, pos, af, none⟩ :: rest) sl hp K) (h2 : t = false → AOps P ops rest (putA sl d unA) hp K) :
    AOps P ops (⟨d, op, ty, pos, af, some (j, want)⟩ :: rest) sl hp K := ⟨t, hg, h1, h2⟩
theorem vMc {x : Operand} {c : CV} (hx : ev sl x = .c c) (h : AOps P ops rest (putA sl d (.c c)) hp K) : AOps P ops (⟨d, .move x, ty, pos, af, none⟩ :: rest) sl hp K := by
  unfold AOps; simp only [aop, hx]; exact h
theorem vMa {x : Operand} {c : List CV} (hx : ev sl x = .ag c) (h : AOps P ops rest (putA sl d (.ag c)) hp K) : AOps P ops (⟨d, .move x, ty, pos, af, none⟩ :: rest) sl hp K := by
  unfold AOps; simp only [aop, hx]; exact h
theorem vAc {x : Operand} {c : CV} (hx : ev sl x = .c c) (h : AOps P ops rest (putA sl d (.c c)) hp K) : AOps P ops (⟨d, .assign x, ty, pos, af, none⟩ :: rest) sl hp K := by
  unfold AOps; simp only [aop, hx]; exact h
theorem vAa {x : Operand} {c : List CV} (hx : ev sl x = .ag c) (h : AOps P ops rest (putA sl d (.ag c)) hp K) : AOps P ops (⟨d, .assign x, ty, pos, af, none⟩ :: rest) sl hp K := by
  unfold AOps; simp only [aop, hx]; exact h
theorem vB {b : BinOp} {t t' : TypeId} {x y : Operand} {u v r : Value} (hx : ev sl x = .c (.v u)) (hy : ev sl y = .c (.v v)) (hr : bin b u v = some r) (h : AOps P ops rest (putA sl d (.c (.v r))) hp K) :
    AOps P ops (⟨d, .binOp b t x y t', ty, pos, af, none⟩ :: rest) sl hp K := by
  unfold AOps; simp only [aop, hx, hy]; exact .inl ⟨r, hr, h⟩
theorem vU {b : UnOp} {t : TypeId} {x : Operand} {u r : Value} (hx : ev sl x = .c (.v u)) (hr : un b u = some r) (h : AOps P ops rest (putA sl d (.c (.v r))) hp K) :
    AOps P ops (⟨d, .unOp b t x, ty, pos, af, none⟩ :: rest) sl hp K := by
  unfold AOps; simp only [aop, hx]; exact ⟨r, hr, h⟩
theorem vP {c x y : Operand} {t : Bool} (hc : ev sl c = .c (.v (.bool t))) (h1 : t = true → AOps P ops rest (putA sl d (ev sl x)) hp K) (h2 : t = false → AOps P ops rest (putA sl d (ev sl y)) hp K) :
    AOps P ops (⟨d, .pick c x y, ty, pos, af, none⟩ :: rest) sl hp K := by
  unfold AOps; simp only [aop, hc]; exact ⟨h1, h2⟩
/-- A pick that is an 'and' or an 'or': no case is split. -/
theorem vPb {c x y : Operand} {t a b : Bool} (hc : ev sl c = .c (.v (.bool t))) (hx : ev sl x = .c (.v (.bool a))) (hy : ev sl y = .c (.v (.bool b))) (h : AOps P ops rest (putA sl d (bv (if t then a else b))) hp K) :
    AOps P ops (⟨d, .pick c x y, ty, pos, af, none⟩ :: rest) sl hp K := by
  unfold AOps; simp only [aop, hc, hx, hy]
  exact ⟨fun e => by subst e; exact h, fun e => by subst e; exact h⟩
theorem vLs {x : Operand} {t : TypeId} {s : ByteArray} (ht : P.underlying t = some .string) (hx : ev sl x = .c (.v (.string s))) (h : AOps P ops rest (putA sl d (iv s.size)) hp K) :
    AOps P ops (⟨d, .call ⟨.builtin .len, #[x], #[t]⟩, ty, pos, af, none⟩ :: rest) sl hp K := by
  unfold AOps; simp only [aop, callK, hx]; exact ⟨ht, h⟩
def bAt (s : ByteArray) (i : Nat) : UInt8 := s.data.toList.getD i 0
theorem bAt_eq {s : ByteArray} {i : Nat} (h : i < s.size) : s[i]'h = bAt s i := by
  have h' : i < s.data.toList.length := by simpa using h
  simp only [bAt, List.getD_eq_getElem?_getD, List.getElem?_eq_getElem h']
  rfl
theorem vIs {x y : Operand} {t : TypeId} {s : ByteArray} {k : IntKind} {i : Nat} (ht : P.underlying t = some .string) (hx : ev sl x = .c (.v (.string s))) (hy : ev sl y = .c (.v (.int k (i : Int)))) (hi : i < s.size)
    (h : AOps P ops rest (putA sl d (.c (.v (.int .u8 (bAt s i).toNat)))) hp K) : AOps P ops (⟨d, .index t x y, ty, pos, af, none⟩ :: rest) sl hp K := by
  unfold AOps; simp only [aop, hx, hy]
  exact ⟨ht, by omega, by simpa using hi, by simpa [bAt_eq hi] using h⟩
theorem vC {f : FuncId} {xs : Array Operand} {ts : Array TypeId} {T : List (Nat × AB)} {v : AV} {E : List (Nat × Option AB)} (hc : CallSem P f (xs.toList.map (ev sl)) T hp.length v E) (hT : ∀ x ∈ T, hget hp x.1 = some x.2)
    (h : AOps P ops rest (putA sl d v) (happly hp E) K) : AOps P ops (⟨d, .call ⟨.value (.func f), xs, ts⟩, ty, pos, af, none⟩ :: rest) sl hp K := by
  unfold AOps; exact ⟨T, v, E, hc, hT, h⟩
theorem vE (h : K sl hp) : AOps P ops [] sl hp K := h
theorem vGy {op : Op} {j : Nat} {t : Bool} (hg : guardA ops sl j true = some t) (ht : t = true) (h : AOps P ops (⟨d, op, ty, pos, af, none⟩ :: rest) sl hp K) : AOps P ops (⟨d, op, ty, pos, af, some (j, true)⟩ :: rest) sl hp K :=
  vG hg (fun _ => h) fun e => by rw [ht] at e; cases e
theorem vGx {op : Op} {j : Nat} {t : Bool} (hg : guardA ops sl j false = some (!t)) (ht : t = false) (h : AOps P ops (⟨d, op, ty, pos, af, none⟩ :: rest) sl hp K) : AOps P ops (⟨d, op, ty, pos, af, some (j, false)⟩ :: rest) sl hp K :=
  vG hg (fun _ => h) fun e => by rw [ht] at e; cases e
theorem vGn1 {op : Op} {j : Nat} {want t : Bool} (hg : guardA ops sl j want = some t) (ht : t = false) (h : AOps P ops rest (putA sl d unA) hp K) : AOps P ops (⟨d, op, ty, pos, af, some (j, want)⟩ :: rest) sl hp K :=
  vG hg (fun e => by rw [ht] at e; cases e) fun _ => h
theorem vGn0 {op : Op} {j : Nat} {t : Bool} (hg : guardA ops sl j false = some (!t)) (ht : t = true) (h : AOps P ops rest (putA sl d unA) hp K) : AOps P ops (⟨d, op, ty, pos, af, some (j, false)⟩ :: rest) sl hp K :=
  vG hg (fun e => by rw [ht] at e; cases e) fun _ => h
theorem vGt {op : Op} {j : Nat} {t : Bool} (hg : guardA ops sl j true = some t) (h1 : t = true → AOps P ops (⟨d, op, ty, pos, af, none⟩ :: rest) sl hp K) (h2 : t = false → AOps P ops rest (putA sl d unA) hp K) :
    AOps P ops (⟨d, op, ty, pos, af, some (j, true)⟩ :: rest) sl hp K := vG hg h1 h2
theorem vGf {op : Op} {j : Nat} {t : Bool} (hg : guardA ops sl j false = some (!t)) (h1 : t = false → AOps P ops (⟨d, op, ty, pos, af, none⟩ :: rest) sl hp K) (h2 : t = true → AOps P ops rest (putA sl d unA) hp K) :
    AOps P ops (⟨d, op, ty, pos, af, some (j, false)⟩ :: rest) sl hp K := vG hg (fun e => h1 (by simpa using e)) (fun e => h2 (by simpa using e))
theorem vPt {c x y : Operand} {v : CV} {t : Bool} (hc : ev sl c = bv t) (ht : t = true) (hx : ev sl x = .c v) (h : AOps P ops rest (putA sl d (.c v)) hp K) : AOps P ops (⟨d, .pick c x y, ty, pos, af, none⟩ :: rest) sl hp K :=
  vP hc (fun _ => hx ▸ h) (fun e => by rw [ht] at e; cases e)
theorem vPf {c x y : Operand} {v : CV} {t : Bool} (hc : ev sl c = bv t) (ht : t = false) (hx : ev sl y = .c v) (h : AOps P ops rest (putA sl d (.c v)) hp K) : AOps P ops (⟨d, .pick c x y, ty, pos, af, none⟩ :: rest) sl hp K :=
  vP hc (fun e => by rw [ht] at e; cases e) (fun _ => hx ▸ h)
end
/-- A function whose arguments are plain. -/
theorem FunSem.callS {P : Program} {f : Nat} {xs ys : List AV} {v : AV} {nid : Nat} (hf : FunSem P f [] ys [] v) (hl : LendAs [] [] xs ys) : CallSem P f xs [] nid (renA [] v) [] :=
  hf.call (T := []) (H := []) (U := []) List.nodup_nil trivial hl rfl rfl rfl (by simp)

section
variable {P : Program} {n : Nat} {x y z c : Code} {σ : St} {Q : Exit → St → Prop} {ops : Array Oper} {id : Nat}
theorem wReg {l : List Oper} {sl : List AV} {hp : Hp} (h : AOps P l.toArray l sl hp fun sl hp => Q .normal ⟨sl, hp⟩) : AW P n (.region id l.toArray false) ⟨sl, hp⟩ Q := AW.region h
theorem wC {o : Operand} {t : Bool} {sl : List AV} {hp : Hp} (hc : ev sl o = .c (.v (.bool t))) (h1 : t = true → AW P n x ⟨sl, hp⟩ Q) (h2 : t = false → AW P n y ⟨sl, hp⟩ Q) : AW P n (.cond o x y) ⟨sl, hp⟩ Q := AW.cond hc h1 h2
theorem wCt {o : Operand} {t : Bool} {sl : List AV} {hp : Hp} (hc : ev sl o = .c (.v (.bool t))) (ht : t = true) (h : AW P n x ⟨sl, hp⟩ Q) : AW P n (.cond o x y) ⟨sl, hp⟩ Q := AW.cond hc (fun _ => h) (fun e => by rw [ht] at e; cases e)
theorem wCf {o : Operand} {t : Bool} {sl : List AV} {hp : Hp} (hc : ev sl o = .c (.v (.bool t))) (ht : t = false) (h : AW P n y ⟨sl, hp⟩ Q) : AW P n (.cond o x y) ⟨sl, hp⟩ Q := AW.cond hc (fun e => by rw [ht] at e; cases e) (fun _ => h)
theorem wSeq (h : ∀ K : St → Prop, (∀ σ, AW P n y σ Q → K σ) → AW P n x σ (thenA K Q)) : AW P n (.seq x y) σ Q := AW.seq (h _ fun _ h => h)
theorem tK {K : St → Prop} {m : Nat} {Q' : Exit → St → Prop} (hK : ∀ σ, AW P m y σ Q' → K σ) (h : AW P m y σ Q') : thenA K Q .normal σ := hK _ h
theorem tN {K : St → Prop} (h : K σ) : thenA K Q .normal σ := h
theorem tR {K : St → Prop} (h : Q .ret σ) : thenA K Q .ret σ := h
theorem tX {K : St → Prop} {i : Nat} (h : Q (.exit i) σ) : thenA K Q (.exit i) σ := h
theorem bN {i : Nat} (h : Q .normal σ) : blockA i Q .normal σ := h
theorem bR {i : Nat} (h : Q .ret σ) : blockA i Q .ret σ := h
theorem bX {i : Nat} (h : Q .normal σ) : blockA i Q (.exit i) σ := by simp only [blockA, if_true]; exact h
theorem bY {i j : Nat} (hij : (j == i) = false) (h : Q (.exit j) σ) : blockA i Q (.exit j) σ := by
  have : j ≠ i := by simpa using hij
  simp only [blockA, if_neg this]; exact h
theorem sN (h : Q .normal σ) : scopeA Q .normal σ := h
theorem sR (h : Q .ret σ) : scopeA Q .ret σ := h
theorem sX {i : Nat} (h : Q (.exit i) σ) : scopeA Q (.exit i) σ := h
def thenW (n m : Nat) (I : Nat → St → Prop) (Q : Exit → St → Prop) : Exit → St → Prop
  | .normal, σ => ∃ R σ' k, Wk n R σ σ' ∧ k < m ∧ I k σ'
  | e, σ => Q e σ
theorem lN {m : Nat} {I : Nat → St → Prop} (h : ∃ R σ' k, Wk n R σ σ' ∧ k < m ∧ I k σ') : thenW n m I Q .normal σ := h
theorem lR {m : Nat} {I : Nat → St → Prop} (h : Q .ret σ) : thenW n m I Q .ret σ := h
theorem lX {m i : Nat} {I : Nat → St → Prop} (h : Q (.exit i) σ) : thenW n m I Q (.exit i) σ := h
theorem eN {rs : List ResultVar} {hp1 : Hp} {v : AV} {R : List Nat} {v0 : AV} (h1 : resA P σ rs = some v0) (h2 : Wk n R ⟨[v0], σ.hp⟩ ⟨[v], hp1⟩) : EndOk P rs n hp1 v .normal σ := ⟨v0, h1, Imp.weaken h2 (Imp.refl rfl)⟩
theorem eR {rs : List ResultVar} {hp1 : Hp} {v : AV} {R : List Nat} {v0 : AV} (h1 : resA P σ rs = some v0) (h2 : Wk n R ⟨[v0], σ.hp⟩ ⟨[v], hp1⟩) : EndOk P rs n hp1 v .ret σ := ⟨v0, h1, Imp.weaken h2 (Imp.refl rfl)⟩
theorem wk_plain {v : AV} {hp : Hp} (h : AVle [] v v) : Wk 0 [] ⟨[v], hp⟩ ⟨[v], []⟩ := ⟨List.nodup_nil, Nat.le_refl _, rfl, ⟨h, trivial⟩, trivial⟩

theorem eR1 {rs : List ResultVar} {x y : Value} (h1 : resA P σ rs = some (.c (.v x))) (h2 : x = y) : EndOk P rs 0 [] (.c (.v y)) .ret σ := by
  subst h2; exact eR h1 (wk_plain rfl)
theorem eR2 {rs : List ResultVar} {x y x' y' : Value} (h1 : resA P σ rs = some (.tu [.inl (.v x), .inl (.v x')])) (h2 : x = y ∧ x' = y') : EndOk P rs 0 [] (.tu [.inl (.v y), .inl (.v y')]) .ret σ := by
  obtain ⟨rfl, rfl⟩ := h2; exact eR h1 (wk_plain ⟨rfl, rfl, trivial⟩)
theorem eR3 {rs : List ResultVar} {x y x' y' x'' y'' : Value} (h1 : resA P σ rs = some (.tu [.inl (.v x), .inl (.v x'), .inl (.v x'')])) (h2 : x = y ∧ x' = y' ∧ x'' = y'') : EndOk P rs 0 [] (.tu [.inl (.v y), .inl (.v y'), .inl (.v y'')]) .ret σ := by
  obtain ⟨rfl, rfl, rfl⟩ := h2; exact eR h1 (wk_plain ⟨rfl, rfl, rfl, trivial⟩)
theorem AW.wkpost (h : AW P n c σ (fun e σ' => ∃ R σ'', Wk n R σ' σ'' ∧ Q e σ'')) : AW P n c σ Q := fun B w0 G a w hn hr =>
  wp_mono (h B w0 G a w hn hr) fun e a w ⟨G, σ', ⟨R, σ'', hw, hQ⟩, hr⟩ => by
    obtain ⟨G', hr'⟩ := hr.weaken (hn ▸ hw)
    exact ⟨G', σ'', hQ, hr'⟩
theorem wk_refl_avles (l : List AV) : True := trivial
/-- As below; the invariant stands behind a variable. -/
theorem AW.loopJ (I : Nat → St → Prop) (m : Nat) {R : List Nat} {σ' : St} (hw : Wk n R σ σ') (h0 : I m σ') (h : ∀ J : Nat → St → Prop, (∀ m σ, I m σ → J m σ) → ∀ m σ, I m σ → AW P n c σ (thenW n m J Q)) : AW P n (.loop c) σ Q := by
  refine AW.weaken hw (AW.loop I m h0 fun m σ hI => ?_)
  intro B w0 G a w hn hr
  refine wp_mono (h I (fun _ _ h => h) m σ hI B w0 G a w hn hr) fun e a w ⟨G, σ', hQ, hr⟩ => ?_
  cases e with
  | normal =>
    obtain ⟨R, σ'', k, hw, hk, hI⟩ := hQ
    obtain ⟨G', hr'⟩ := hr.weaken (hn ▸ hw)
    exact ⟨G', σ'', ⟨k, hk, hI⟩, hr'⟩
  | _ => exact ⟨G, σ', hQ, hr⟩
/-- A loop: what a round leaves is weakened to the invariant. -/
theorem AW.loopW (I : Nat → St → Prop) (m : Nat) {R : List Nat} {σ' : St} (hw : Wk n R σ σ') (h0 : I m σ') (h : ∀ m σ, I m σ → AW P n c σ (thenW n m I Q)) : AW P n (.loop c) σ Q := by
  refine AW.weaken hw (AW.loop I m h0 fun m σ hI => ?_)
  intro B w0 G a w hn hr
  refine wp_mono (h m σ hI B w0 G a w hn hr) fun e a w ⟨G, σ', hQ, hr⟩ => ?_
  cases e with
  | normal =>
    obtain ⟨R, σ'', k, hw, hk, hI⟩ := hQ
    obtain ⟨G', hr'⟩ := hr.weaken (hn ▸ hw)
    exact ⟨G', σ'', ⟨k, hk, hI⟩, hr'⟩
  | _ => exact ⟨G, σ', hQ, hr⟩
end
/-- Slots: all that is not named is forgotten. -/
def mkS : Nat → List (Nat × AV) → List AV
  | n, [] => List.replicate n .no
  | n, (t, v) :: l => (mkS n l).set t v
def MkOk (R : List Nat) (sl : List AV) : List (Nat × AV) → Prop
  | [] => True
  | (t, v) :: l => AVle R (sl.getD t .no) v ∧ MkOk R sl l
theorem wrap_succ {i : Nat} (h : i < 4611686018427387904) : IntKind.i64.wrap ((i : Int) + 1) = ((i + 1 : Nat) : Int) := by rw [IntKind.wrap_i64]; omega
theorem allB_iff {s : ByteArray} {p : UInt8 → Bool} : s.data.toList.all p = true ↔ ∀ (i : Nat), i < s.size → p (bAt s i) = true := by
  rw [List.all_eq_true]
  constructor
  · intro h i hi; rw [← bAt_eq hi]; exact h _ (by rw [Array.mem_toList_iff]; exact Array.getElem_mem hi)
  · intro h b hb
    rw [Array.mem_toList_iff] at hb
    obtain ⟨i, hi, rfl⟩ := Array.mem_iff_getElem.1 hb
    have := h i hi
    rwa [← bAt_eq hi] at this
theorem allB_false {s : ByteArray} {p : UInt8 → Bool} {i : Nat} (h : i < s.size) (hp : p (bAt s i) = false) : s.data.toList.all p = false := by
  cases hq : s.data.toList.all p with
  | false => rfl
  | true => have := allB_iff.1 hq i h; rw [hp] at this; cases this
theorem mkS_len (n : Nat) (l : List (Nat × AV)) : (mkS n l).length = n := by
  induction l with
  | nil => simp [mkS]
  | cons x l ih => obtain ⟨t, v⟩ := x; simp [mkS, ih]
theorem avles_of_get {R : List Nat} : ∀ {sl sl' : List AV}, sl.length = sl'.length → (∀ t, AVle R (sl.getD t .no) (sl'.getD t .no)) → AVles R sl sl' := by
  intro sl
  induction sl with
  | nil => intro sl' hl h; cases sl' with
    | nil => trivial
    | cons => simp at hl
  | cons x sl ih => intro sl' hl h; cases sl' with
    | nil => simp at hl
    | cons y sl' => exact ⟨by simpa using h 0, ih (by simpa using hl) fun t => by simpa using h (t + 1)⟩
theorem avle_no (R : List Nat) (v : AV) : AVle R v .no := by cases v <;> trivial
theorem avles_mk {R : List Nat} {sl : List AV} {n : Nat} {l : List (Nat × AV)} (hl : sl.length = n) (h : MkOk R sl l) : AVles R sl (mkS n l) := by
  refine avles_of_get (by rw [mkS_len, hl]) fun t => ?_
  clear hl
  induction l with
  | nil => simp only [mkS, List.getD_eq_getElem?_getD]
           rw [List.getElem?_replicate]; split <;> exact avle_no R _
  | cons x l ih =>
    obtain ⟨u, v⟩ := x
    obtain ⟨h1, h2⟩ := h
    simp only [mkS, List.getD_eq_getElem?_getD, List.getElem?_set] at ih ⊢
    split
    · rename_i e; subst e
      split
      · simpa [List.getD_eq_getElem?_getD] using h1
      · exact avle_no R _
    · exact ih h2
theorem wk_mk {n m : Nat} {R : List Nat} {sl : List AV} {hp hp' : Hp} {l : List (Nat × AV)} (h1 : R.Nodup) (h2 : n ≤ R.length) (h3 : R.take n = List.range n) (h4 : sl.length = m) (h5 : MkOk R sl l) (h6 : ABles R hp R hp') : Wk n R ⟨sl, hp⟩ ⟨mkS m l, hp'⟩ :=
  ⟨h1, h2, h3, avles_mk h4 h5, h6⟩
/-- No blocks are held. -/
theorem wk_mk0 {m : Nat} {sl : List AV} {hp : Hp} {l : List (Nat × AV)} (h4 : sl.length = m) (h5 : MkOk [] sl l) : Wk 0 [] ⟨sl, hp⟩ ⟨mkS m l, []⟩ := wk_mk List.nodup_nil (Nat.le_refl _) rfl h4 h5 trivial
/-- A round's end: the next state of the invariant. -/
theorem lJ {m k len : Nat} {J : Nat → St → Prop} {Q : Exit → St → Prop} {sl : List AV} {hp : Hp} {l : List (Nat × AV)} (h4 : sl.length = len) (h5 : MkOk [] sl l) (hk : k < m) (hJ : J k ⟨mkS len l, []⟩) : thenW 0 m J Q .normal ⟨sl, hp⟩ :=
  lN ⟨[], _, k, wk_mk0 h4 h5, hk, hJ⟩
end Go.Proofs.Ytekdfddodabfcaa
/- The reckoner, part A: what an operation comes to, as a function that Lean's kernel reckons: over any kind of answer (Alg). -/
namespace Go.Proofs.Ytekdfddodabfcaa
open Go.RowKit
set_option linter.unusedVariables false
set_option linter.unusedSimpArgs false

/-- Answers: a test, a need, no answer. -/
structure Alg (α : Type) where
  br : Bool → α → α → α
  nd : Prop → α → α
  bad : α
def nds {α : Type} (A : Alg α) : List Prop → α → α
  | [], K => K
  | p :: l, K => A.nd p (nds A l K)
def andL : List Prop → Prop
  | [] => True
  | p :: l => p ∧ andL l
def brP (b : Bool) (x y : Prop) : Prop := match b with | true => x | false => y
def PA : Alg Prop := ⟨brP, And, False⟩

/-! ### Shapes: an element's cells by its type. -/
inductive CS where
  | i (k : IntKind)
  | b
  | s
  | l (e : Nat)
  | x
def csOf : Value → Nat → CS
  | .int k _, _ => .i k
  | .bool _, _ => .b
  | .string _, _ => .s
  | .slice _ _ _, e => .l e
  | _, _ => .x
def csZip : List Value → List Nat → List CS
  | v :: vs, e :: es => csOf v e :: csZip vs es
  | v :: vs, [] => csOf v 0 :: csZip vs []
  | [], _ => []
/-- A type's cells, flat: the elements' types of its slices. -/
def etsF (P : Program) : Nat → TypeId → List Nat
  | 0, _ => [0]
  | n + 1, t => match P.underlying t with
    | some (.slice e) => [e]
    | some (.struct fs) => fs.toList.flatMap fun f => etsF P n f.type
    | _ => [0]
def shapeT (P : Program) (e : Nat) : List CS := match zcT P e with
  | some zs => csZip zs (etsF P 4 e)
  | none => []
def dI : DV → Int | .s (.int _ n) => n | _ => 0
def dB : DV → Bool | .s (.bool b) => b | _ => false
def dS : DV → ByteArray | .s (.string s) => s | _ => ⟨#[]⟩
def dL : DV → List (List DV) | .l _ ls => ls | _ => []
def cD (ls : List (List DV)) (i j : Nat) : DV := (ls.getD i []).getD j .no
def cI (ls : List (List DV)) (i j : Nat) : Int := dI (cD ls i j)
def cB (ls : List (List DV)) (i j : Nat) : Bool := dB (cD ls i j)
def cS (ls : List (List DV)) (i j : Nat) : ByteArray := dS (cD ls i j)
def cL (ls : List (List DV)) (i j : Nat) : List (List DV) := dL (cD ls i j)
def elGo (ls : List (List DV)) (i : Nat) : Nat → List CS → List DV
  | _, [] => []
  | j, .i k :: r => .s (.int k (cI ls i j)) :: elGo ls i (j + 1) r
  | j, .b :: r => .s (.bool (cB ls i j)) :: elGo ls i (j + 1) r
  | j, .s :: r => .s (.string (cS ls i j)) :: elGo ls i (j + 1) r
  | j, .l e :: r => .l e (cL ls i j) :: elGo ls i (j + 1) r
  | j, .x :: r => .no :: elGo ls i (j + 1) r
/-- Element i as its type says. -/
def elE (P : Program) (e : Nat) (ls : List (List DV)) (i : Nat) : List DV := elGo ls i 0 (shapeT P e)
def El (P : Program) (e : Nat) (ls : List (List DV)) (i : Nat) : Prop := ls[i]? = some (elE P e ls i)

/-! ### Elements, laid out. -/
section
variable {α : Type}
def frD (d : DV) (K : DV → α) : α :=
  match d with
  | .s (.int k n) => K (.s (.int k n))
  | .s (.bool b) => K (.s (.bool b))
  | .s (.string s) => K (.s (.string s))
  | .s v => K (.s v)
  | .l e ls => K (.l e ls)
  | .no => K .no
def frDs (ds : List DV) (K : List DV → α) : α :=
  match ds with
  | [] => K []
  | d :: l => frD d fun d => frDs l fun l => K (d :: l)
def frLs (ls : List (List DV)) (K : List (List DV) → α) : α :=
  match ls with
  | [] => K []
  | d :: l => frDs d fun d => frLs l fun l => K (d :: l)
theorem frD_eq (d : DV) (K : DV → α) : frD d K = K d := by
  cases d with
  | s v => cases v <;> rfl
  | l e ls => rfl
  | no => rfl
theorem frDs_eq (ds : List DV) : ∀ (K : List DV → α), frDs ds K = K ds := by
  induction ds with
  | nil => intro K; rfl
  | cons c l ih => intro K; unfold frDs; rw [frD_eq, ih]
theorem frLs_eq (ds : List (List DV)) : ∀ (K : List (List DV) → α), frLs ds K = K ds := by
  induction ds with
  | nil => intro K; rfl
  | cons c l ih => intro K; unfold frLs; rw [frDs_eq, ih]
end

/-! ### Operations. -/
section
variable {α : Type} (A : Alg α)

def binE (b : BinOp) (u v : Value) (K : Value → α) : α :=
  match b, u, v with
  | .add, .int k a, .int k' b => A.br (decide (k = k')) (A.nd (k.wrap (a + b) = a + b) (K (.int k (a + b)))) A.bad
  | .sub, .int k a, .int k' b => A.br (decide (k = k')) (A.nd (k.wrap (a - b) = a - b) (K (.int k (a - b)))) A.bad
  | .mul, .int k a, .int k' b => A.br (decide (k = k')) (A.nd (k.wrap (a * b) = a * b) (K (.int k (a * b)))) A.bad
  | .quo, .int k a, .int k' b => A.br (decide (k = k')) (A.nd (b ≠ 0 ∧ k.wrap (a.tdiv b) = a.tdiv b) (K (.int k (a.tdiv b)))) A.bad
  | .rem, .int k a, .int k' b => A.br (decide (k = k')) (A.nd (b ≠ 0) (K (.int k (a.tmod b)))) A.bad
  | .add, .string a, .string b => A.nd (((a.size + b.size : Nat) : Int) ≤ 9223372036854775807) (K (.string (a ++ b)))
  | b, u, v => match bin b u v with
    | some r => K r
    | none => A.bad
def unE (b : UnOp) (u : Value) (K : Value → α) : α :=
  match b, u with
  | .neg, .int k n => A.nd (k.wrap (0 - n) = -n) (K (.int k (-n)))
  | b, u => match un b u with
    | some r => K r
    | none => A.bad
/-- The address of element i. -/
def elemE (P : Program) (hp : Hp) (E : Nat) (i : Nat) (c : CV) (K : CV → α) : α :=
  match c with
  | .ro e ls => A.br (Nat.beq (shapeT P e).length (szT P E)) (A.nd (El P e ls i) (K (.tp (elE P e ls i) 0))) A.bad
  | .sl id n => match hget hp id with
    | some (.row _ e ls) => A.br (Nat.beq (szT P e) (szT P E)) (A.nd (n = ls.length ∧ i < n) (K (.rp id i 0))) A.bad
    | _ => A.bad
  | .sb id lo n => match hget hp id with
    | some (.row _ e ls) => A.br (Nat.beq (szT P e) (szT P E)) (A.nd (lo + n ≤ ls.length ∧ i < n) (K (.rp id (lo + i) 0))) A.bad
    | _ => A.bad
  | _ => A.bad
/-- The cells at an address. -/
def cellsE (P : Program) (hp : Hp) (c : CV) (n : Nat) (K : List CV → α) : α :=
  match c with
  | .pt id off => match hget hp id with
    | some (.var _ cs) => match part2 cs off n with
      | some r => K r
      | none => A.bad
    | _ => A.bad
  | .tp cs off => match part2 cs off n with
    | some r => K (r.map dvc)
    | none => A.bad
  | .rp id i off => match hget hp id with
    | some (.row _ e ls) => match part2 (elE P e ls i).zipIdx off n with
      | some r => A.nd (El P e ls i) (K (r.map (rdc id i)))
      | none => A.bad
    | _ => A.bad
  | _ => A.bad
def loadE (P : Program) (hp : Hp) (t : TypeId) (c : CV) (K : AV → α) : α :=
  match aggT P t with
  | some false => cellsE A P hp c 1 fun r => match r with
    | [d] => K (.c d)
    | _ => A.bad
  | some true => match szT P t with
    | 0 => A.bad
    | n + 1 => cellsE A P hp c (n + 1) fun r => K (.ag r)
  | none => A.bad
def partsE (rd : Operand → AV) : List (Nat × Operand) → Option (List (Nat × List CV))
  | [] => some []
  | (i, x) :: rest => match cellsOf (rd x), partsE rd rest with
    | some cs, some r => some ((i, cs) :: r)
    | _, _ => none
def intsE (rd : Operand → AV) (k : IntKind) : List Operand → Option (List Int)
  | [] => some []
  | x :: r => match rd x, intsE rd k r with
    | .c (.v (.int k' n)), some ns => if k' = k then some (n :: ns) else none
    | _, _ => none
theorem partsE_ev {sl : List AV} : ∀ l, partsE (ev sl) l = partsOf sl l := by
  intro l
  induction l with
  | nil => rfl
  | cons x l ih => obtain ⟨i, x⟩ := x; unfold partsE partsOf; rw [ih]; rfl
theorem intsE_ev {sl : List AV} {k : IntKind} : ∀ l, intsE (ev sl) k l = intsOf sl k l := by
  intro l
  induction l with
  | nil => rfl
  | cons x l ih => unfold intsE intsOf; rw [ih]; rfl
def valsE : List CV → Option (List Value)
  | [] => some []
  | .v x :: l => match valsE l with
    | some r => some (x :: r)
    | none => none
  | _ => none
def eqE : List Value → List Value → (Bool → α) → α
  | [], [], K => K true
  | .int _ a :: xs, .int _ b :: ys, K => A.br (a == b) (eqE xs ys K) (K false)
  | .string a :: xs, .string b :: ys, K => A.br (a.toList == b.toList) (eqE xs ys K) (K false)
  | .bool a :: xs, .bool b :: ys, K => A.br (a == b) (eqE xs ys K) (K false)
  | _, _, _ => A.bad
def isU8 : TypeDesc → Bool
  | .int .u8 => true
  | _ => false
def lookE (hp : Hp) (c : CV) : List Nat := ids (looks hp c)

def sliceE (P : Program) (rd : Operand → AV) (hp : Hp) (t : Nat) (x : Operand) (lo hi mx : Option Operand) (K : AV → List (Nat × Option AB) → List Nat → α) : α :=
  match rd x with
  | .c (.v (.string s)) => match mx, P.underlying t, bnd 0 (lo.map rd), bnd s.size (hi.map rd) with
    | none, some .string, some l, some h => A.nd (0 ≤ l ∧ l ≤ h ∧ h ≤ s.size) (K (.c (.v (.string (s.extract l.toNat h.toNat)))) [] [])
    | _, _, _, _ => A.bad
  | .c c => match P.underlying t, lenC c with
    | some (.slice E), some n => match bnd 0 (lo.map rd), bnd n (hi.map rd), bnd n (mx.map rd) with
      | some l, some h, some m => match (!mx.isSome || hi.isSome), szT P E, sliceC l.toNat h.toNat c with
        | true, _ + 1, some d => A.nd (0 ≤ l ∧ l ≤ h ∧ h ≤ m ∧ m ≤ n) (A.nd (sliceOk P hp E c) (K (.c d) [] (lookE hp c)))
        | _, _, _ => A.bad
      | _, _, _ => A.bad
    | _, _ => A.bad
  | _ => A.bad

def minE : List Int → Int → (Int → α) → α
  | [], n, K => K n
  | m :: ms, n, K => minE ms (mn2 n m) K
def maxE : List Int → Int → (Int → α) → α
  | [], n, K => K n
  | m :: ms, n, K => maxE ms (mx2 n m) K
def kindOf : AV → IntKind
  | .c (.v (.int k _)) => k
  | _ => .i64

def appE (P : Program) (hp : Hp) (nid t t' : Nat) (c d : CV) (K : AV → List (Nat × Option AB) → List Nat → α) : α :=
  match Nat.beq t t', P.underlying t with
  | true, some (.slice E) => match elB P E, dstE hp E c with
    | some by_, some (ls, R, p) => nds A p (match d with
      | .sl id2 n => match hget hp id2 with
        | some (.row false e2 ns) => match Nat.beq e2 E, R.contains id2 with
          | true, false => A.nd (n = ns.length ∧ (ls.length + ns.length) * by_ ≤ 140737488355328 ∧ ls.length + ns.length ≤ 140737488355328)
              (K (.c (.sl nid (ls ++ ns).length)) (drops (R ++ [id2]) ++ [(nid, some (.row true E (ls ++ ns)))]) (lookE hp c ++ [id2]))
          | _, _ => A.bad
        | _ => copyE P hp nid E by_ ls R c d K
      | _ => copyE P hp nid E by_ ls R c d K)
    | _, _ => A.bad
  | _, _ => A.bad
where
  dstE (hp : Hp) (E : Nat) : CV → Option (List (List DV) × List Nat × List Prop)
    | .v (.slice none 0 0) => some ([], [], [])
    | .sl id n => match hget hp id with
      | some (.row _ e ls) => match Nat.beq e E with
        | true => some (ls, [id], [n = ls.length])
        | false => none
      | _ => none
    | .sb id 0 n => match hget hp id with
      | some (.row _ e ls) => match Nat.beq e E with
        | true => some (ls.take n, [id], [n ≤ ls.length])
        | false => none
      | _ => none
    | _ => none
  srcE (P : Program) (hp : Hp) (E : Nat) : CV → Option (List (List DV) × List Prop)
    | .v (.slice none 0 0) => some ([], [])
    | .ro e ls => match Nat.beq (szT P e) (szT P E) with
      | true => some (ls, [])
      | false => none
    | .sl id n => match hget hp id with
      | some (.row _ e ls) => match Nat.beq (szT P e) (szT P E) with
        | true => some (ls, [n = ls.length])
        | false => none
      | _ => none
    | .sb id lo n => match hget hp id with
      | some (.row _ e ls) => match Nat.beq (szT P e) (szT P E) with
        | true => some ((ls.drop lo).take n, [lo + n ≤ ls.length])
        | false => none
      | _ => none
    | _ => none
  copyE (P : Program) (hp : Hp) (nid E by_ : Nat) (ls : List (List DV)) (R : List Nat) (c d : CV) (K : AV → List (Nat × Option AB) → List Nat → α) : α :=
    match srcE P hp E d with
    | some (ns, p) => nds A p (A.nd (allS ns = true ∧ (ls.length + ns.length) * by_ ≤ 140737488355328 ∧ ls.length + ns.length ≤ 140737488355328)
        (K (.c (.sl nid (ls ++ ns).length)) (drops R ++ [(nid, some (.row true E (ls ++ ns)))]) (lookE hp c ++ lookE hp d)))
    | none => A.bad
end

/-- A function's contract as a program: what the call needs, gives, changes, looks at. -/
structure CE (P : Program) where
  f : Nat
  run : Hp → Nat → List AV → Option (List Prop × AV × List (Nat × Option AB) × List (Nat × AB))
  ok : ∀ hp nid xs p v E T, run hp nid xs = some (p, v, E, T) → andL p → CallSem P f xs T nid v E ∧ ∀ x ∈ T, hget hp x.1 = some x.2
def findCE {P : Program} (f : Nat) : List (CE P) → Option (CE P)
  | [] => none
  | e :: l => match Nat.beq e.f f with
    | true => some e
    | false => findCE f l
theorem findCE_f {P : Program} {f : Nat} {e : CE P} : ∀ {l : List (CE P)}, findCE f l = some e → e.f = f := by
  intro l
  induction l with
  | nil => intro h; cases h
  | cons x l ih =>
    intro h
    unfold findCE at h
    split at h
    · rename_i hb; injection h with h; subst h; exact Nat.eq_of_beq_eq_true hb
    · exact ih h

section
variable {α : Type} (A : Alg α)
def callE (P : Program) (tb : List (CE P)) (rd : Operand → AV) (hp : Hp) (nid : Nat) (c : Call) (K : AV → List (Nat × Option AB) → List Nat → α) : α :=
  match c.callee, c.args.toList, c.argTypes.toList with
  | .builtin .len, [x], [t] => match rd x with
    | .c (.v (.string s)) => match P.underlying t with
      | some .string => K (.c (.v (.int .i64 s.size))) [] []
      | _ => A.bad
    | .c c => match P.underlying t, lenC c with
      | some (.slice _), some n => K (.c (.v (.int .i64 n))) [] []
      | _, _ => A.bad
    | _ => A.bad
  | .builtin .append, [x, y], [t, t'] => match rd x, rd y with
    | .c c, .c d => appE A P hp nid t t' c d K
    | _, _ => A.bad
  | .builtin .min, x :: xs, _ => match intsE rd (kindOf (rd x)) (x :: xs) with
    | some (n :: ns) => minE ns n fun m => K (.c (.v (.int (kindOf (rd x)) m))) [] []
    | _ => A.bad
  | .builtin .max, x :: xs, _ => match intsE rd (kindOf (rd x)) (x :: xs) with
    | some (n :: ns) => maxE ns n fun m => K (.c (.v (.int (kindOf (rd x)) m))) [] []
    | _ => A.bad
  | .value (.func f), xs, _ => match findCE f tb with
    | some e => match e.run hp nid (xs.map rd) with
      | some (p, v, E, T) => nds A p (K v E (ids T))
      | none => A.bad
    | none => A.bad
  | _, _, _ => A.bad

def opE (P : Program) (tb : List (CE P)) (rd : Operand → AV) (hp : Hp) (nid : Nat) (op : Op) (K : AV → List (Nat × Option AB) → List Nat → α) : α :=
  match op with
  | .move x => K (rd x) [] []
  | .assign x => K (rd x) [] []
  | .pick c x y => match rd c with
    | .c (.v (.bool t)) => A.br t (K (rd x) [] []) (K (rd y) [] [])
    | _ => A.bad
  | .binOp b t x y _ => match rd x, rd y with
    | .c (.v (.bool a)), .c (.v (.bool c)) => match P.underlying t, b with
      | some .bool, .eql => K (.c (.v (.bool (a == c)))) [] []
      | some .bool, .neq => K (.c (.v (.bool (!(a == c))))) [] []
      | _, _ => A.bad
    | .c (.v u), .c (.v v) => binE A b u v fun r => K (.c (.v r)) [] []
    | .ag cs, .ag ds => match eqT P t, valsE cs, valsE ds with
      | some fs, some xs, some ys => match fitVs P fs xs, fitVs P fs ys, b with
        | true, true, .eql => eqE A xs ys fun r => K (.c (.v (.bool r))) [] []
        | true, true, .neq => eqE A xs ys fun r => K (.c (.v (.bool (!r)))) [] []
        | _, _, _ => A.bad
      | _, _, _ => A.bad
    | _, _ => A.bad
  | .nilCheck x => match rd x with
    | .c c => match addC 0 c with
      | some _ => K (.c c) [] []
      | none => A.bad
    | _ => A.bad
  | .makeMap _ none => K (.c (.mp nid)) [(nid, some (.ob emptyO))] []
  | .lookup t m x false => match rd m, rd x with
    | .c (.mp id), .ag cs => match hget hp id, setT P t, valsE cs with
      | some (.ob ob), some fs, some ks => match fitVs P fs ks with
        | true => A.nd (SetM P t ob) (K (.c (.v (.bool (memO ob ks)))) [] [id])
        | false => A.bad
      | _, _, _ => A.bad
    | _, _ => A.bad
  | .mapUpdate t m x y => match rd m, rd x, rd y with
    | .c (.mp id), .ag cs, .c (.v (.bool true)) => match hget hp id, setT P t, valsE cs with
      | some (.ob ob), some fs, some ks => match fitVs P fs ks with
        | true => A.nd (SetM P t ob) (A.nd (memO ob ks = false) (K .no [(id, some (.ob (insO ob ks)))] [id]))
        | false => A.bad
      | _, _, _ => A.bad
    | _, _, _ => A.bad
  | .unOp b _ x => match rd x with
    | .c (.v u) => unE A b u fun r => K (.c (.v r)) [] []
    | _ => A.bad
  | .convert s d x => match rd x with
    | .c (.v (.int _ n)) => match P.underlying s, P.underlying d with
      | some _, some (.int k') => A.nd (k'.wrap n = n) (K (.c (.v (.int k' n))) [] [])
      | _, _ => A.bad
    | .c (.v (.string b)) => match P.underlying s, P.underlying d with
      | some .string, some .string => K (.c (.v (.string b))) [] []
      | _, _ => A.bad
    | .c (.sl id n) => match hget hp id, P.underlying s, P.underlying d with
      | some (.row pn e ls), some (.slice e'), some .string => match Nat.beq e' e, P.underlying e, Nat.beq (szT P e) 1 with
        | true, some (.int .u8), true => A.nd (n = ls.length ∧ allU8 ls = true ∧ ls ≠ []) (K (.c (.v (.string (rowStr ls)))) [] [id])
        | _, _, _ => A.bad
      | _, _, _ => A.bad
    | _ => A.bad
  | .alloc t => match zcT P t with
    | some zs => K (.c (.pt nid 0)) [(nid, some (.var t (zs.map .v)))] []
    | none => A.bad
  | .box t x => match cellsOf (rd x) with
    | some cs => K (.c (.pt nid 0)) [(nid, some (.var t cs))] []
    | none => A.bad
  | .build t ps => match zcT P t, placesT P t, partsE rd ps.toList with
    | some zs, some pl, some ap => match fillA (fun i : Nat => pl[i]?) (zs.map .v) ap with
      | some flat => K (.ag flat) [] []
      | none => A.bad
    | _, _, _ => A.bad
  | .buildSlice t len ps => match P.underlying t with
    | some (.slice E) => match zcT P E, partsE rd ps.toList with
      | some (z :: zr), some ap => match Nat.beq (szT P E) (z :: zr).length, Nat.ble (len * (z :: zr).length) 16777216, fillA (fun i => some (i * (z :: zr).length, (z :: zr).length)) ((zeros (z :: zr) len).map .v) ap with
        | true, true, some flat => match gives hp ((List.replicate len (etsT P E)).flatten) flat with
          | some (ds, R) => A.br (decide R.Nodup) (frLs (chunk len (z :: zr).length ds) fun rows => K (.c (.sl nid rows.length)) (drops R ++ [(nid, some (.row false E rows))]) (ids (looksAll hp flat))) A.bad
          | none => A.bad
        | _, _, _ => A.bad
      | _, _ => A.bad
    | _ => A.bad
  | .load t x => match rd x with
    | .c c => loadE A P hp t c fun v => K v [] (lookE hp c)
    | _ => A.bad
  | .store t x y => match rd x, cellsOf (rd y) with
    | .c (.pt id off), some cs' => match hget hp id with
      | some (.var t' cs) => match Nat.beq (szT P t) cs'.length, Nat.ble 1 cs'.length, Nat.ble (off + cs'.length) cs.length with
        | true, true, true => K .no [(id, some (.var t' (putN cs off cs')))] [id]
        | _, _, _ => A.bad
      | _ => A.bad
    | .c (.rp id i off), some cs' => match hget hp id with
      | some (.row pn e ls) => A.nd (El P e ls i) (match pn, rd y with
        | true, .c (.v v) => match szT P t, (elE P e ls i)[off]? with
          | 1, some (.s _) => A.br (sca v) (frDs ((elE P e ls i).set off (.s v)) fun cs => K .no [(id, some (.row true e (ls.set i cs)))] [id]) A.bad
          | _, _ => A.bad
        | _, _ => match gives hp (etsT P t) cs' with
          | some (ds, R) => match Nat.beq (szT P t) cs'.length, Nat.ble 1 cs'.length, R.contains id, Nat.ble (off + ds.length) (elE P e ls i).length with
            | true, true, false, true => A.br (decide R.Nodup) (frDs (spl (elE P e ls i) off ds) fun cs => K .no (drops R ++ [(id, some (.row false e (ls.set i cs)))]) (ids ((id, .row pn e ls) :: looksAll hp cs'))) A.bad
            | _, _, _, _ => A.bad
          | none => A.bad)
      | _ => A.bad
    | _, _ => A.bad
  | .fieldAddr s x i => match rd x, P.underlying s with
    | .c c, some (.struct fs) => match fs[i]? with
      | some f => match szT P f.type, addC f.offset c with
        | _ + 1, some c' => K (.c c') [] []
        | _, _ => A.bad
      | none => A.bad
    | _, _ => A.bad
  | .indexAddr t x y => match rd x, rd y, P.underlying t with
    | .c c, .c (.v (.int _ i)), some (.slice E) => match szT P E with
      | _ + 1 => A.nd (0 ≤ i) (elemE A P hp E i.toNat c fun d => K (.c d) [] (lookE hp c))
      | 0 => A.bad
    | _, _, _ => A.bad
  | .index t x y => match rd x, rd y, P.underlying t with
    | .c (.v (.string s)), .c (.v (.int _ i)), some .string => A.nd (0 ≤ i ∧ i.toNat < s.size) (K (.c (.v (.int .u8 (bAt s i.toNat).toNat))) [] [])
    | _, _, _ => A.bad
  | .slice t x lo hi mx => sliceE A P rd hp t x lo hi mx K
  | .makeSlice t x y => match rd x, rd y, P.underlying t with
    | .c (.v (.int _ l)), .c (.v (.int _ c)), some (.slice E) => match zcT P E, elB P E with
      | some zs, some by_ => match Nat.beq (szT P E) zs.length, gives [] (etsT P E) (zs.map .v) with
        | true, some (zd, []) => A.nd (0 ≤ l ∧ l ≤ c ∧ c ≤ 140737488355328 ∧ c * by_ ≤ 281474976710656) (K (.c (.sl nid (List.replicate l.toNat zd).length)) [(nid, some (.row false E (List.replicate l.toNat zd)))] [])
        | _, _ => A.bad
      | _, _ => A.bad
    | _, _, _ => A.bad
  | .extract x i => match rd x with
    | .tu xs => match xs[i]? with
      | some y => K (tuAt y) [] []
      | none => A.bad
    | _ => A.bad
  | .call c => callE A P tb rd hp nid c K
  | _ => A.bad
end
end Go.Proofs.Ytekdfddodabfcaa
/- The reckoner, part B: what it says of an operation, is so. -/
namespace Go.Proofs.Ytekdfddodabfcaa
open Go.RowKit
set_option linter.unusedVariables false
set_option linter.unusedSimpArgs false

theorem nds_iff {x : Prop} : ∀ {l : List Prop}, nds PA l x → andL l ∧ x := by
  intro l
  induction l with
  | nil => intro h; exact ⟨trivial, h⟩
  | cons p l ih => intro h; obtain ⟨h1, h2⟩ := h; exact ⟨⟨h1, (ih h2).1⟩, (ih h2).2⟩
theorem brP_iff {b : Bool} {x y : Prop} (h : brP b x y) : (b = true ∧ x) ∨ (b = false ∧ y) := by cases b; exact .inr ⟨rfl, h⟩; exact .inl ⟨rfl, h⟩
theorem brP_bad {b : Bool} {x : Prop} (h : PA.br b x PA.bad) : b = true ∧ x := by
  rcases brP_iff h with h | ⟨_, h⟩
  · exact h
  · exact h.elim
theorem beq_nat {a b : Nat} (h : Nat.beq a b = true) : a = b := Nat.eq_of_beq_eq_true h
theorem ble_nat {a b : Nat} (h : Nat.ble a b = true) : a ≤ b := Nat.le_of_ble_eq_true h

section
variable {P : Program} {tb : List (CE P)} {sl : List AV} {hp : Hp} {nid : Nat} {K : AV → List (Nat × Option AB) → List Nat → Prop}

theorem binE_sound {b : BinOp} {u v : Value} {K : Value → Prop} (h : binE PA b u v K) : ∃ r, bin b u v = some r ∧ K r := by
  unfold binE at h
  split at h
  · obtain ⟨hk, hn, hh⟩ := brP_bad h; have hk := of_decide_eq_true hk; exact ⟨_, by simp only [bin]; rw [if_pos hk, hn], hh⟩
  · obtain ⟨hk, hn, hh⟩ := brP_bad h; have hk := of_decide_eq_true hk; exact ⟨_, by simp only [bin]; rw [if_pos hk, hn], hh⟩
  · obtain ⟨hk, hn, hh⟩ := brP_bad h; have hk := of_decide_eq_true hk; exact ⟨_, by simp only [bin]; rw [if_pos hk, hn], hh⟩
  · obtain ⟨hk, ⟨h0, hn⟩, hh⟩ := brP_bad h; have hk := of_decide_eq_true hk; exact ⟨_, by simp only [bin]; rw [if_pos hk, if_neg h0, hn], hh⟩
  · obtain ⟨hk, hn, hh⟩ := brP_bad h; have hk := of_decide_eq_true hk; exact ⟨_, by simp only [bin]; rw [if_pos hk, if_neg hn], hh⟩
  · obtain ⟨hn, hh⟩ := h; exact ⟨_, by simp only [bin, hn, if_true], hh⟩
  · split at h
    · exact ⟨_, ‹_›, h⟩
    · exact h.elim
theorem unE_sound {b : UnOp} {u : Value} {K : Value → Prop} (h : unE PA b u K) : ∃ r, un b u = some r ∧ K r := by
  unfold unE at h
  split at h
  · obtain ⟨hn, h⟩ := h; exact ⟨_, by simp only [un, hn], h⟩
  · split at h
    · exact ⟨_, ‹_›, h⟩
    · exact h.elim
theorem valsE_eq : ∀ cs : List CV, valsE cs = valsC cs := by
  intro cs
  induction cs with
  | nil => rfl
  | cons c cs ih =>
    cases c <;> first | rfl | skip
    simp only [valsE, valsC]; rw [ih]; cases valsC cs <;> rfl
theorem eqE_sound {K : Bool → Prop} : ∀ {xs ys : List Value}, eqE PA xs ys K → K (eqVs xs ys) := by
  intro xs
  induction xs with
  | nil => intro ys h; cases ys with
    | nil => exact h
    | cons => exact h.elim
  | cons x xs ih =>
    intro ys h
    cases ys with
    | nil => cases x <;> exact h.elim
    | cons y ys =>
      cases x <;> cases y <;> first | exact h.elim | skip
      all_goals
        simp only [eqE] at h
        rcases brP_iff h with ⟨h1, h2⟩ | ⟨h1, h2⟩
        · simp only [eqVs, eqV, h1, Bool.true_and]; exact ih h2
        · simp only [eqVs, eqV, h1, Bool.false_and]; exact h2
theorem elGo_len {ls : List (List DV)} {i : Nat} : ∀ (sh : List CS) (j : Nat), (elGo ls i j sh).length = sh.length := by
  intro sh
  induction sh with
  | nil => intro j; rfl
  | cons c sh ih => intro j; cases c <;> simp [elGo, ih]
theorem elE_len {e : Nat} {ls : List (List DV)} {i : Nat} : (elE P e ls i).length = (shapeT P e).length := elGo_len _ _
theorem elemE_sound {E i : Nat} {c : CV} {K : CV → Prop} (h : elemE PA P hp E i c K) : ∃ d, elemAt P hp E i c = some d ∧ K d := by
  unfold elemE at h
  split at h
  · obtain ⟨hk, hn, h⟩ := brP_bad h
    have := beq_nat hk
    refine ⟨_, ?_, h⟩
    unfold El at hn
    simp [elemAt, hn, elE_len, this]
  · split at h
    · rename_i hg
      obtain ⟨hk, ⟨h1, h2⟩, h⟩ := brP_bad h
      exact ⟨_, by simp only [elemAt, hg]; rw [if_pos ⟨h1, h2, beq_nat hk⟩], h⟩
    · exact h.elim
  · split at h
    · rename_i hg
      obtain ⟨hk, ⟨h1, h2⟩, h⟩ := brP_bad h
      exact ⟨_, by simp only [elemAt, hg]; rw [if_pos ⟨h1, h2, beq_nat hk⟩], h⟩
    · exact h.elim
  · exact h.elim
theorem cellsE_sound {c : CV} {n : Nat} {K : List CV → Prop} (h : cellsE PA P hp c n K) : ∃ r, cellsAt hp c n = some r ∧ K r := by
  unfold cellsE at h
  split at h
  · split at h
    · rename_i hg
      split at h
      · exact ⟨_, by simp only [cellsAt, hg]; assumption, h⟩
      · exact h.elim
    · exact h.elim
  · split at h
    · rename_i hr; exact ⟨_, by simp only [cellsAt, hr]; rfl, h⟩
    · exact h.elim
  · split at h
    · rename_i hg
      split at h
      · rename_i hr
        obtain ⟨hn, h⟩ := h
        unfold El at hn
        exact ⟨_, by simp only [cellsAt, hg, hn, hr]; rfl, h⟩
      · exact h.elim
    · exact h.elim
  · exact h.elim
theorem minE_sound {ns : List Int} : ∀ {n : Int} {K : Int → Prop}, minE ns n K → K (ns.foldl mn2 n) := by
  induction ns with
  | nil => intro n K h; exact h
  | cons m ms ih => intro n K h; exact ih h
theorem maxE_sound {ns : List Int} : ∀ {n : Int} {K : Int → Prop}, maxE ns n K → K (ns.foldl mx2 n) := by
  induction ns with
  | nil => intro n K h; exact h
  | cons m ms ih => intro n K h; exact ih h
theorem sliceE_sound {t : Nat} {x : Operand} {lo hi mx : Option Operand} (h : sliceE PA P (ev sl) hp t x lo hi mx K) : sliceK P sl hp t x lo hi mx K := by
  unfold sliceE at h
  unfold sliceK
  split at h
  · rename_i s hs
    simp only [hs]
    split at h
    · rename_i l h' hu hl hh
      obtain ⟨⟨h1, h2, h3⟩, h⟩ := h
      exact ⟨rfl, hu, l, h', hl, hh, h1, h2, h3, h⟩
    · exact h.elim
  · rename_i c hns hs
    simp only [hs]
    split at h
    · rename_i E n hu hl
      split at h
      · rename_i l hh m h1 h2 h3
        split at h
        · rename_i z d hm hz hsl
          obtain ⟨⟨g1, g2, g3, g4⟩, g5, h⟩ := h
          have hms : mx.isSome = true → hi.isSome = true := by
            intro e; rw [e] at hm; simpa using hm
          cases c with
          | v x =>
            cases x <;> first | (simp [sliceC] at hsl; done) | skip
          | _ => exact ⟨E, n, l, hh, m, d, hu, by omega, hl, h1, h2, h3, hms, g1, g2, g3, g4, hsl, g5, h⟩
        · exact h.elim
      · exact h.elim
    · exact h.elim
  · exact h.elim
theorem dstE_sound {E : Nat} {c : CV} {ls : List (List DV)} {R : List Nat} {p : List Prop} (h : appE.dstE hp E c = some (ls, R, p)) (hpp : andL p) : dstOf hp E c = some (ls, R) := by
  unfold appE.dstE at h
  split at h
  · injection h with h; injection h with h1 h; injection h with h2 h3; subst h1; subst h2; rfl
  · split at h
    · rename_i hg
      split at h
      · rename_i hb
        injection h with h; injection h with h1 h; injection h with h2 h3; subst h1; subst h2; subst h3
        simp only [dstOf, hg]; rw [if_pos ⟨beq_nat hb, hpp.1⟩]
      · cases h
    · cases h
  · split at h
    · rename_i hg
      split at h
      · rename_i hb
        injection h with h; injection h with h1 h; injection h with h2 h3; subst h1; subst h2; subst h3
        simp only [dstOf, hg]; rw [if_pos ⟨beq_nat hb, hpp.1⟩]
      · cases h
    · cases h
  · cases h
theorem srcE_sound {E : Nat} {c : CV} {ls : List (List DV)} {p : List Prop} (h : appE.srcE P hp E c = some (ls, p)) (hpp : andL p) : srcOf P hp E c = some ls := by
  unfold appE.srcE at h
  split at h
  · injection h with h; injection h with h1 h; subst h1; rfl
  · split at h
    · rename_i hb
      injection h with h; injection h with h1 h; subst h1; subst h
      simp only [srcOf]; rw [if_pos (beq_nat hb)]
    · cases h
  · split at h
    · rename_i hg
      split at h
      · rename_i hb
        injection h with h; injection h with h1 h; subst h1; subst h
        simp only [srcOf, hg]; rw [if_pos ⟨beq_nat hb, hpp.1⟩]
      · cases h
    · cases h
  · split at h
    · rename_i hg
      split at h
      · rename_i hb
        injection h with h; injection h with h1 h; subst h1; subst h
        simp only [srcOf, hg]; rw [if_pos ⟨beq_nat hb, hpp.1⟩]
      · cases h
    · cases h
  · cases h
theorem ids_app (a b : List (Nat × AB)) : ids (a ++ b) = ids a ++ ids b := by simp [ids]
theorem copyE_sound {E by_ : Nat} {ls : List (List DV)} {R : List Nat} {c d : CV} (h : appE.copyE PA P hp nid E by_ ls R c d K) :
    ∃ ns, srcOf P hp E d = some ns ∧ allS ns = true ∧ (ls.length + ns.length) * by_ ≤ 140737488355328 ∧ ls.length + ns.length ≤ 140737488355328 ∧
      K (.c (.sl nid (ls ++ ns).length)) (drops R ++ [(nid, some (.row true E (ls ++ ns)))]) (ids (looks hp c ++ looks hp d)) := by
  unfold appE.copyE at h
  split at h
  · rename_i ns p hs
    obtain ⟨hpp, ⟨h1, h2, h3⟩, h⟩ := nds_iff h
    exact ⟨ns, srcE_sound hs hpp, h1, h2, h3, by rw [ids_app]; exact h⟩
  · exact h.elim
theorem appE_sound {t t' : Nat} {x y : Operand} {c d : CV} (hx : ev sl x = .c c) (hy : ev sl y = .c d) (h : appE PA P hp nid t t' c d K) : callK P sl hp nid ⟨.builtin .append, #[x, y], #[t, t']⟩ K := by
  unfold appE at h
  split at h
  · rename_i E ht hu
    obtain rfl := beq_nat ht
    split at h
    · rename_i by_ ls R p hb hd
      obtain ⟨hpp, h⟩ := nds_iff h
      simp only [callK, hx, hy]
      refine ⟨by first | rfl | trivial, E, by_, ls, R, hu, hb, dstE_sound hd hpp, ?_⟩
      split at h
      · rename_i id2 n
        split at h
        · rename_i e2 ns hg
          split at h
          · rename_i h1 h2
            obtain ⟨⟨g1, g2, g3⟩, h⟩ := h
            simp only [hg]
            refine ⟨beq_nat h1, g1, by simpa using h2, g2, g3, ?_⟩
            rw [ids_app]; exact h
          · exact h.elim
        · rename_i hne
          have := copyE_sound h
          dsimp only
          split
          · rename_i e2 ns hg; exact absurd hg (hne e2 ns)
          · exact this
      · rename_i hne
        have := copyE_sound h
        cases d with
        | sl id2 n => exact absurd rfl (hne _ _)
        | _ => exact this
    · exact h.elim
  · exact h.elim
theorem callE_sound {c : Call} (h : callE PA P tb (ev sl) hp nid c K) : callK P sl hp nid c K := by
  obtain ⟨ce, as, ts⟩ := c
  unfold callE at h
  simp only at h
  split at h
  · rename_i x t h1 h2
    have e1 : as = #[x] := by apply Array.ext'; simpa using h1
    have e2 : ts = #[t] := by apply Array.ext'; simpa using h2
    subst e1; subst e2
    simp only [callK]
    split at h
    · rename_i s hs
      simp only [hs]
      split at h
      · exact ⟨‹_›, h⟩
      · exact h.elim
    · rename_i c hns hs
      simp only [hs]
      split at h
      · rename_i E n hu hl
        cases c with
        | v x =>
          cases x with
          | string s => exact absurd rfl (hns _)
          | _ => exact ⟨E, n, hu, hl, h⟩
        | _ => exact ⟨E, n, hu, hl, h⟩
      · exact h.elim
    · exact h.elim
  · rename_i x y t t' h1 h2
    have e1 : as = #[x, y] := by apply Array.ext'; simpa using h1
    have e2 : ts = #[t, t'] := by apply Array.ext'; simpa using h2
    subst e1; subst e2
    split at h
    · exact appE_sound ‹_› ‹_› h
    · exact h.elim
  · rename_i x xs ts' h1
    simp only [callK, h1]
    split at h
    · rename_i n ns hn
      rw [intsE_ev] at hn
      exact ⟨_, n, ns, hn, minE_sound h⟩
    · exact h.elim
  · rename_i x xs ts' h1
    simp only [callK, h1]
    split at h
    · rename_i n ns hn
      rw [intsE_ev] at hn
      exact ⟨_, n, ns, hn, maxE_sound h⟩
    · exact h.elim
  · rename_i f xs ts'
    simp only [callK]
    split at h
    · rename_i e he
      split at h
      · rename_i p v E T hr
        obtain ⟨hp', h⟩ := nds_iff h
        obtain ⟨g1, g2⟩ := e.ok _ _ _ _ _ _ _ hr hp'
        rw [findCE_f he] at g1
        exact ⟨T, v, E, g1, g2, h⟩
      · exact h.elim
    · exact h.elim
  · exact h.elim
theorem nodup_of {R : List Nat} (h : decide R.Nodup = true) : R.Nodup := of_decide_eq_true h
theorem opE_sound {op : Op} (h : opE PA P tb (ev sl) hp nid op K) : aop P sl hp nid op K := by
  unfold opE at h
  simp only [partsE_ev] at h
  split at h
  case h_1 x => exact h
  case h_2 x => exact h
  case h_3 c x y =>
    simp only [aop]
    split at h
    · rename_i t ht
      simp only [ht]
      rcases brP_iff h with ⟨rfl, h'⟩ | ⟨rfl, h'⟩
      · simpa using h'
      · simpa using h'
    · exact h.elim
  case h_4 b _ x y _ =>
    simp only [aop]
    split at h
    · rename_i a c hu hv
      simp only [hu, hv]
      split at h
      · rename_i hq
        exact .inr ⟨a, c, false, rfl, rfl, rfl, hq, by simpa using h⟩
      · rename_i hq
        exact .inr ⟨a, c, true, rfl, rfl, rfl, hq, by simpa using h⟩
      · exact h.elim
    · rename_i u v _ hu hv
      simp only [hu, hv]
      exact .inl (binE_sound h)
    · rename_i cs ds hu hv
      simp only [hu, hv]
      split at h
      · rename_i fs xs ys h1 h2 h3
        rw [valsE_eq] at h2 h3
        split at h
        · rename_i f1 f2
          exact ⟨fs, xs, ys, false, rfl, h1, h2, h3, f1, f2, by simpa using eqE_sound h⟩
        · rename_i f1 f2
          exact ⟨fs, xs, ys, true, rfl, h1, h2, h3, f1, f2, by simpa using eqE_sound h⟩
        · exact h.elim
      · exact h.elim
    · exact h.elim
  case h_5 x =>
    simp only [aop]
    split at h
    · rename_i c hx
      simp only [hx]
      split at h
      · exact ⟨_, ‹_›, h⟩
      · exact h.elim
    · exact h.elim
  case h_6 => exact h
  case h_7 t m x =>
    simp only [aop]
    split at h
    · rename_i id cs hm hx
      simp only [hm, hx]
      split at h
      · rename_i ob fs ks hg h1 h2
        rw [valsE_eq] at h2
        simp only [hg]
        split at h
        · rename_i hf
          obtain ⟨⟨fs', hf', hS⟩, h⟩ := h
          rw [h1] at hf'; obtain rfl := Option.some.inj hf'
          exact ⟨fs, ks, h1, h2, hf, hS, h⟩
        · exact h.elim
      · exact h.elim
    · exact h.elim
  case h_8 t m x y =>
    simp only [aop]
    split at h
    · rename_i id cs hm hx hy
      simp only [hm, hx, hy]
      split at h
      · rename_i ob fs ks hg h1 h2
        rw [valsE_eq] at h2
        simp only [hg]
        split at h
        · rename_i hf
          obtain ⟨⟨fs', hf', hS⟩, hmm, h⟩ := h
          rw [h1] at hf'; obtain rfl := Option.some.inj hf'
          exact ⟨fs, ks, h1, h2, hf, hS, hmm, h⟩
        · exact h.elim
      · exact h.elim
    · exact h.elim
  case h_9 b _ x =>
    simp only [aop]
    split at h
    · rename_i u hu
      simp only [hu]
      exact unE_sound h
    · exact h.elim
  case h_10 s d x =>
    simp only [aop]
    split at h
    · rename_i k n hx
      simp only [hx]
      split at h
      · rename_i u k' hu hd
        obtain ⟨hn, h⟩ := h
        exact ⟨k', by simp [hu], hd, by rw [hn]; exact h⟩
      · exact h.elim
    · rename_i b hx
      simp only [hx]
      split at h
      · exact ⟨‹_›, ‹_›, h⟩
      · exact h.elim
    · rename_i id n hx
      simp only [hx]
      split at h
      · rename_i pn e ls e' hg hs hd
        simp only [hg]
        split at h
        · rename_i h1 h2 h3
          have := beq_nat h1
          subst this
          obtain ⟨⟨h4, h5, h6⟩, h⟩ := h
          exact ⟨hs, h2, hd, beq_nat h3, h4, h5, h6, h⟩
        · exact h.elim
      · exact h.elim
    · exact h.elim
  case h_11 t =>
    simp only [aop]
    split at h
    · exact ⟨_, ‹_›, h⟩
    · exact h.elim
  case h_12 t x =>
    simp only [aop]
    split at h
    · exact ⟨_, ‹_›, h⟩
    · exact h.elim
  case h_13 t ps =>
    simp only [aop]
    split at h
    · split at h
      · exact ⟨_, _, _, _, ‹_›, ‹_›, ‹_›, ‹_›, h⟩
      · exact h.elim
    · exact h.elim
  case h_14 t len ps =>
    simp only [aop]
    split at h
    · rename_i E hE
      split at h
      · rename_i z zr ap hz hap
        split at h
        · rename_i flat h1 h2 h3
          split at h
          · rename_i ds R hg
            obtain ⟨hnd, h⟩ := brP_bad h
            rw [frLs_eq] at h
            exact ⟨E, _, ap, flat, ds, R, hE, hz, beq_nat h1, by simp, ble_nat h2, hap, h3, hg, nodup_of hnd, h⟩
          · exact h.elim
        · exact h.elim
      · exact h.elim
    · exact h.elim
  case h_15 t x =>
    simp only [aop]
    split at h
    · rename_i c hx
      simp only [hx]
      unfold loadE at h
      split at h
      · rename_i hag
        obtain ⟨r, hr, h⟩ := cellsE_sound h
        split at h
        · exact ⟨false, hag, fun _ => ⟨_, hr, h⟩, fun e => by cases e⟩
        · exact h.elim
      · rename_i hag
        split at h
        · exact h.elim
        · rename_i n hn
          obtain ⟨r, hr, h⟩ := cellsE_sound h
          exact ⟨true, hag, fun e => (by cases e), fun _ => ⟨by omega, r, by rw [hn]; exact hr, h⟩⟩
      · exact h.elim
    · exact h.elim
  case h_16 t x y =>
    simp only [aop]
    split at h
    · rename_i id off cs' hx hy
      simp only [hx]
      split at h
      · rename_i t' cs hg
        simp only [hg]
        split at h
        · rename_i h1 h2 h3
          exact ⟨cs', hy, beq_nat h1, by have := ble_nat h2; omega, ble_nat h3, h⟩
        · exact h.elim
      · exact h.elim
    · rename_i id i off cs' hx hy
      simp only [hx]
      split at h
      · rename_i pn e ls hg
        simp only [hg]
        obtain ⟨hel, h⟩ := h
        unfold El at hel
        refine ⟨_, hel, ?_⟩
        have hgen : ∀ av, ev sl y = av → (match gives hp (etsT P t) cs' with
          | some (ds, R) => match Nat.beq (szT P t) cs'.length, Nat.ble 1 cs'.length, R.contains id, Nat.ble (off + ds.length) (elE P e ls i).length with
            | true, true, false, true => PA.br (decide R.Nodup) (frDs (spl (elE P e ls i) off ds) fun cs => K .no (drops R ++ [(id, some (.row false e (ls.set i cs)))]) (ids ((id, .row pn e ls) :: looksAll hp cs'))) PA.bad
            | _, _, _, _ => PA.bad
          | none => PA.bad) → ∃ cs'' ds R, cellsOf av = some cs'' ∧ szT P t = cs''.length ∧ cs''.length ≠ 0 ∧ gives hp (etsT P t) cs'' = some (ds, R) ∧ R.Nodup ∧ id ∉ R ∧ off + ds.length ≤ (elE P e ls i).length ∧
               K .no (drops R ++ [(id, some (.row false e (ls.set i (spl (elE P e ls i) off ds))))]) (ids ((id, .row pn e ls) :: looksAll hp cs'')) := by
          intro av hav h
          split at h
          · rename_i ds R hgv
            split at h
            · rename_i h1 h2 h3 h4
              obtain ⟨hnd, h⟩ := brP_bad h
              rw [frDs_eq] at h
              exact ⟨cs', ds, R, by rw [← hav]; exact hy, beq_nat h1, by have := ble_nat h2; omega, hgv, nodup_of hnd, by simpa using h3, ble_nat h4, h⟩
            · exact h.elim
          · exact h.elim
        split at h
        · rename_i v hv
          simp only [hv]
          split at h
          · rename_i u hz hc
            obtain ⟨hs, h⟩ := brP_bad h
            rw [frDs_eq] at h
            exact ⟨hz, hs, ⟨u, hc⟩, h⟩
          · exact h.elim
        · rename_i hne
          have h := hgen _ rfl h
          generalize ev sl y = av at h hne
          split
          · exact absurd rfl (hne _ rfl)
          · exact h
      · exact h.elim
    · exact h.elim
  case h_17 s x i =>
    simp only [aop]
    split at h
    · rename_i c fs hx hs
      simp only [hx]
      split at h
      · rename_i f hf
        split at h
        · rename_i z c' hz hc
          exact ⟨fs, f, c', hs, hf, by omega, hc, h⟩
        · exact h.elim
      · exact h.elim
    · exact h.elim
  case h_18 t x y =>
    simp only [aop]
    split at h
    · rename_i c k i E hx hy ht
      simp only [hx, hy]
      split at h
      · rename_i z hz
        obtain ⟨h0, h⟩ := h
        obtain ⟨d, hd, h⟩ := elemE_sound h
        exact ⟨E, d, ht, by omega, h0, hd, h⟩
      · exact h.elim
    · exact h.elim
  case h_19 t x y =>
    simp only [aop]
    split at h
    · rename_i s k i hx hy ht
      simp only [hx, hy]
      obtain ⟨⟨h0, h1⟩, h⟩ := h
      exact ⟨ht, h0, h1, by rw [bAt_eq h1]; exact h⟩
    · exact h.elim
  case h_20 t x lo hi mx => exact sliceE_sound h
  case h_21 t x y =>
    simp only [aop]
    split at h
    · rename_i k l k' c E hx hy ht
      simp only [hx, hy]
      split at h
      · rename_i zs by_ hz hb
        split at h
        · rename_i zd h1 h2
          obtain ⟨⟨g1, g2, g3, g4⟩, h⟩ := h
          exact ⟨E, zs, zd, by_, ht, hz, beq_nat h1, hb, h2, g1, g2, g3, g4, h⟩
        · exact h.elim
      · exact h.elim
    · exact h.elim
  case h_22 x i =>
    simp only [aop]
    split at h
    · rename_i xs hx
      simp only [hx]
      split at h
      · exact ⟨_, ‹_›, h⟩
      · exact h.elim
    · exact h.elim
  case h_23 c => exact callE_sound h
  · exact h.elim
theorem callK_mono {K' : AV → List (Nat × Option AB) → List Nat → Prop} (hm : ∀ v E T, K v E T → K' v E T) {c : Call} (h : callK P sl hp nid c K) : callK P sl hp nid c K' := by
  unfold callK at h ⊢
  split at h
  · split at h
    · exact ⟨h.1, hm _ _ _ h.2⟩
    · obtain ⟨E, n, h1, h2, h⟩ := h; exact ⟨E, n, h1, h2, hm _ _ _ h⟩
    · exact h.elim
  · split at h
    · obtain ⟨h0, E, b, ls, R, h1, h2, h3, h⟩ := h
      refine ⟨h0, E, b, ls, R, h1, h2, h3, ?_⟩
      split at h
      · split at h
        · obtain ⟨g1, g2, g3, g4, g5, h⟩ := h; exact ⟨g1, g2, g3, g4, g5, hm _ _ _ h⟩
        · obtain ⟨ns, g1, g2, g3, g4, h⟩ := h; exact ⟨ns, g1, g2, g3, g4, hm _ _ _ h⟩
      · obtain ⟨ns, g1, g2, g3, g4, h⟩ := h; exact ⟨ns, g1, g2, g3, g4, hm _ _ _ h⟩
    · exact h.elim
  · obtain ⟨k, n, ns, h1, h⟩ := h; exact ⟨k, n, ns, h1, hm _ _ _ h⟩
  · obtain ⟨k, n, ns, h1, h⟩ := h; exact ⟨k, n, ns, h1, hm _ _ _ h⟩
  · obtain ⟨T, v, E, h1, h2, h⟩ := h; exact ⟨T, v, E, h1, h2, hm _ _ _ h⟩
  · exact h.elim
theorem sliceK_mono {K' : AV → List (Nat × Option AB) → List Nat → Prop} (hm : ∀ v E T, K v E T → K' v E T) {t : Nat} {x : Operand} {lo hi mx : Option Operand} (h : sliceK P sl hp t x lo hi mx K) : sliceK P sl hp t x lo hi mx K' := by
  unfold sliceK at h ⊢
  split at h
  · obtain ⟨g1, g2, l, h', g3, g4, g5, g6, g7, h⟩ := h; exact ⟨g1, g2, l, h', g3, g4, g5, g6, g7, hm _ _ _ h⟩
  · obtain ⟨E, n, l, h', m, d, g1, g2, g3, g4, g5, g6, g7, g8, g9, g10, g11, g12, g13, h⟩ := h; exact ⟨E, n, l, h', m, d, g1, g2, g3, g4, g5, g6, g7, g8, g9, g10, g11, g12, g13, hm _ _ _ h⟩
  · exact h.elim
theorem aop_mono {K' : AV → List (Nat × Option AB) → List Nat → Prop} (hm : ∀ v E T, K v E T → K' v E T) {op : Op} (h : aop P sl hp nid op K) : aop P sl hp nid op K' := by
  unfold aop at h ⊢
  split at h
  · exact hm _ _ _ h
  · exact hm _ _ _ h
  · split at h
    · exact ⟨fun e => hm _ _ _ (h.1 e), fun e => hm _ _ _ (h.2 e)⟩
    · exact h.elim
  · split at h
    · rcases h with ⟨r, h1, h⟩ | ⟨a, c, ng, h1, h2, h3, h4, h⟩
      · exact .inl ⟨r, h1, hm _ _ _ h⟩
      · exact .inr ⟨a, c, ng, h1, h2, h3, h4, hm _ _ _ h⟩
    · obtain ⟨fs, xs, ys, ng, h1, h2, h3, h4, h5, h6, h⟩ := h; exact ⟨fs, xs, ys, ng, h1, h2, h3, h4, h5, h6, hm _ _ _ h⟩
    · exact h.elim
  · split at h
    · obtain ⟨c', h1, h⟩ := h; exact ⟨c', h1, hm _ _ _ h⟩
    · exact h.elim
  · exact hm _ _ _ h
  · split at h
    · split at h
      · obtain ⟨fs, ks, h1, h2, h3, h4, h⟩ := h; exact ⟨fs, ks, h1, h2, h3, h4, hm _ _ _ h⟩
      · exact h.elim
    · exact h.elim
  · split at h
    · split at h
      · obtain ⟨fs, ks, h1, h2, h3, h4, h5, h⟩ := h; exact ⟨fs, ks, h1, h2, h3, h4, h5, hm _ _ _ h⟩
      · exact h.elim
    · exact h.elim
  · split at h
    · obtain ⟨r, h1, h⟩ := h; exact ⟨r, h1, hm _ _ _ h⟩
    · exact h.elim
  · split at h
    · obtain ⟨r, h1, h2, h⟩ := h; exact ⟨r, h1, h2, hm _ _ _ h⟩
    · obtain ⟨h1, h2, h⟩ := h; exact ⟨h1, h2, hm _ _ _ h⟩
    · split at h
      · obtain ⟨h1, h2, h3, h4, h5, h6, h7, h⟩ := h; exact ⟨h1, h2, h3, h4, h5, h6, h7, hm _ _ _ h⟩
      · exact h.elim
    · exact h.elim
  · obtain ⟨r, h1, h⟩ := h; exact ⟨r, h1, hm _ _ _ h⟩
  · obtain ⟨r, h1, h⟩ := h; exact ⟨r, h1, hm _ _ _ h⟩
  · obtain ⟨a, b, c, d, h1, h2, h3, h4, h⟩ := h; exact ⟨a, b, c, d, h1, h2, h3, h4, hm _ _ _ h⟩
  · obtain ⟨a, b, c, d, e, f, h1, h2, h3, h4, h5, h6, h7, h8, h9, h⟩ := h; exact ⟨a, b, c, d, e, f, h1, h2, h3, h4, h5, h6, h7, h8, h9, hm _ _ _ h⟩
  · split at h
    · obtain ⟨b, h0, h1, h2⟩ := h
      exact ⟨b, h0, fun e => by obtain ⟨d, g1, g2⟩ := h1 e; exact ⟨d, g1, hm _ _ _ g2⟩, fun e => by obtain ⟨g0, d, g1, g2⟩ := h2 e; exact ⟨g0, d, g1, hm _ _ _ g2⟩⟩
    · exact h.elim
  · split at h
    · split at h
      · obtain ⟨a, h1, h2, h3, h4, h⟩ := h; exact ⟨a, h1, h2, h3, h4, hm _ _ _ h⟩
      · exact h.elim
    · split at h
      · obtain ⟨cs, h1, h⟩ := h
        refine ⟨cs, h1, ?_⟩
        split at h
        · obtain ⟨g1, g2, g3, h⟩ := h; exact ⟨g1, g2, g3, hm _ _ _ h⟩
        · obtain ⟨a, b, c, g1, g2, g3, g4, g5, g6, g7, h⟩ := h; exact ⟨a, b, c, g1, g2, g3, g4, g5, g6, g7, hm _ _ _ h⟩
      · exact h.elim
    · exact h.elim
  · split at h
    · obtain ⟨a, b, c, h1, h2, h3, h4, h⟩ := h; exact ⟨a, b, c, h1, h2, h3, h4, hm _ _ _ h⟩
    · exact h.elim
  · split at h
    · obtain ⟨a, b, h1, h2, h3, h4, h⟩ := h; exact ⟨a, b, h1, h2, h3, h4, hm _ _ _ h⟩
    · exact h.elim
  · split at h
    · obtain ⟨h1, h2, h3, h⟩ := h; exact ⟨h1, h2, h3, hm _ _ _ h⟩
    · exact h.elim
  · exact sliceK_mono hm h
  · split at h
    · obtain ⟨a, b, c, d, h1, h2, h3, h4, h5, h6, h7, h8, h9, h⟩ := h; exact ⟨a, b, c, d, h1, h2, h3, h4, h5, h6, h7, h8, h9, hm _ _ _ h⟩
    · exact h.elim
  · split at h
    · obtain ⟨a, h1, h⟩ := h; exact ⟨a, h1, hm _ _ _ h⟩
    · exact h.elim
  · exact callK_mono hm h
  · exact h.elim
end
end Go.Proofs.Ytekdfddodabfcaa
/- The reckoner, part C: a statement's operations; what is forgotten between statements. -/
namespace Go.Proofs.Ytekdfddodabfcaa
open Go.RowKit
set_option linter.unusedVariables false
set_option linter.unusedSimpArgs false

/-- What is known of the slots: by number. -/
abbrev Env := List (Nat × AV)
def lk (t : Nat) : Env → AV
  | [] => .no
  | (k, v) :: l => match Nat.beq k t with
    | true => v
    | false => lk t l
def lkN (n : Nat) (env : Env) (t : Nat) : AV := match Nat.blt t n with
  | true => lk t env
  | false => .no
def rdE (n : Nat) (env : Env) : Operand → AV
  | .tmp t => lkN n env t
  | .const v => cst v
  | .global g => .c (.v (.pointer (some ⟨g, 0, none⟩)))
  | .func f => .c (.v (.func (.func f) #[] #[]))
def puE (env : Env) (d : Option Nat) (v : AV) : Env := match d with
  | some d => (d, v) :: env
  | none => env
theorem lkN_mk (n : Nat) : ∀ (env : Env) (t : Nat), lkN n env t = (mkS n env).getD t .no := by
  intro env
  induction env with
  | nil =>
    intro t
    unfold lkN
    split
    · simp [lk, mkS, List.getElem?_replicate]; split <;> rfl
    · simp [mkS, List.getElem?_replicate]; split <;> rfl
  | cons x env ih =>
    obtain ⟨k, v⟩ := x
    intro t
    have ih := ih t
    unfold lkN at ih ⊢
    simp only [mkS, List.getD_eq_getElem?_getD, List.getElem?_set, mkS_len] at ih ⊢
    cases hb : Nat.blt t n with
    | true =>
      rw [hb] at ih
      have hlt : t < n := by simpa [Nat.blt_eq] using hb
      dsimp only at ih ⊢
      unfold lk
      split
      · rename_i hk
        have hk := Nat.eq_of_beq_eq_true hk
        subst hk
        simp [hlt]
      · rename_i hk
        have : k ≠ t := by intro e; subst e; simp at hk
        rw [if_neg this]; exact ih
    | false =>
      rw [hb] at ih
      have hge : ¬ t < n := by
        intro h
        have h2 : Nat.blt t n = true := by simpa [Nat.blt_eq] using h
        rw [hb] at h2; cases h2
      dsimp only at ih ⊢
      by_cases e : k = t
      · subst e; simp [hge]
      · rw [if_neg e]; exact ih
theorem rdE_mk (n : Nat) (env : Env) : rdE n env = ev (mkS n env) := by
  funext x
  cases x with
  | tmp t => exact lkN_mk n env t
  | _ => rfl
theorem puE_mk (n : Nat) (env : Env) (d : Option Nat) (v : AV) : mkS n (puE env d v) = putA (mkS n env) d v := by cases d <;> rfl

section
variable {α : Type} (A : Alg α)
def opsE (P : Program) (tb : List (CE P)) (n : Nat) (ops : Array Oper) : List Oper → Env → Hp → (Env → Hp → α) → α
  | [], env, hp, K => K env hp
  | o :: rest, env, hp, K =>
    match o.guard with
    | none => opE A P tb (rdE n env) hp hp.length o.op fun v E _ => opsE P tb n ops rest (puE env o.dst v) (happly hp E) K
    | some (j, want) => match (ops[j]?).bind (·.dst) with
      | some d => match lkN n env d with
        | .c (.v (.bool b)) => A.br b
          (match want with
           | true => opE A P tb (rdE n ((d, bv true) :: env)) hp hp.length o.op fun v E _ => opsE P tb n ops rest (puE ((d, bv true) :: env) o.dst v) (happly hp E) K
           | false => opsE P tb n ops rest (puE ((d, bv true) :: env) o.dst unA) hp K)
          (match want with
           | false => opE A P tb (rdE n ((d, bv false) :: env)) hp hp.length o.op fun v E _ => opsE P tb n ops rest (puE ((d, bv false) :: env) o.dst v) (happly hp E) K
           | true => opsE P tb n ops rest (puE ((d, bv false) :: env) o.dst unA) hp K)
        | .tu [] => opsE P tb n ops rest (puE env o.dst unA) hp K
        | _ => A.bad
      | none => A.bad
def drawE (P : Program) (tb : List (CE P)) (n : Nat) (ops : Array Oper) (base : Nat) (K : Env → Hp → List (List Nat × List Nat) → α) : Nat → List Oper → Env → Hp → List (List Nat × List Nat) → α
  | _, [], env, hp, acc => K env hp acc
  | i, o :: rest, env, hp, acc =>
    match o.guard with
    | none => opE A P tb (rdE n env) hp (base + 8 * i) o.op fun v E T => drawE P tb n ops base K (i + 1) rest (puE env o.dst v) (happly hp E) (acc ++ [(T, E.map Prod.fst)])
    | some (j, want) => match (ops[j]?).bind (·.dst) with
      | some d => match lkN n env d with
        | .c (.v (.bool b)) => A.br b
          (match want with
           | true => opE A P tb (rdE n ((d, bv true) :: env)) hp (base + 8 * i) o.op fun v E T => drawE P tb n ops base K (i + 1) rest (puE ((d, bv true) :: env) o.dst v) (happly hp E) (acc ++ [(T, E.map Prod.fst)])
           | false => drawE P tb n ops base K (i + 1) rest (puE ((d, bv true) :: env) o.dst unA) hp (acc ++ [([], [])]))
          (match want with
           | false => opE A P tb (rdE n ((d, bv false) :: env)) hp (base + 8 * i) o.op fun v E T => drawE P tb n ops base K (i + 1) rest (puE ((d, bv false) :: env) o.dst v) (happly hp E) (acc ++ [(T, E.map Prod.fst)])
           | true => drawE P tb n ops base K (i + 1) rest (puE ((d, bv false) :: env) o.dst unA) hp (acc ++ [([], [])]))
        | .tu [] => drawE P tb n ops base K (i + 1) rest (puE env o.dst unA) hp (acc ++ [([], [])])
        | _ => A.bad
      | none => A.bad
end

theorem set_same {sl : List AV} {d : Nat} {v : AV} (h : sl.getD d .no = v) : sl.set d v = sl := by
  induction sl generalizing d with
  | nil => rfl
  | cons x sl ih => cases d with
    | zero => simp at h; subst h; rfl
    | succ d => simp only [List.set_cons_succ]; rw [ih (by simpa using h)]
theorem guard_b {ops : Array Oper} {sl : List AV} {j d : Nat} {want b : Bool} (hd : (ops[j]?).bind (·.dst) = some d) (hs : sl.getD d .no = .c (.v (.bool b))) : guardA ops sl j want = some (if want then b else !b) := by
  unfold guardA
  rw [hd]
  cases want <;> simp only [hs] <;> rfl
theorem guard_u {ops : Array Oper} {sl : List AV} {j d : Nat} {want : Bool} (hd : (ops[j]?).bind (·.dst) = some d) (hs : sl.getD d .no = .tu []) : guardA ops sl j want = some false := by
  unfold guardA
  rw [hd]
  cases want <;> simp only [hs] <;> rfl
theorem mk_same {n d : Nat} {env : Env} {v : AV} (h : lkN n env d = v) : mkS n ((d, v) :: env) = mkS n env := by
  rw [lkN_mk] at h
  exact set_same h
theorem opsE_sound {P : Program} {tb : List (CE P)} {n : Nat} {ops : Array Oper} {K : List AV → Hp → Prop} {K' : Env → Hp → Prop} (hK : ∀ env hp, K' env hp → K (mkS n env) hp) : ∀ (l : List Oper) (env : Env) (hp : Hp), opsE PA P tb n ops l env hp K' → AOps P ops l (mkS n env) hp K := by
  intro l
  induction l with
  | nil => intro env hp h; exact hK _ _ h
  | cons o rest ih =>
    intro env hp h
    have hop : ∀ env, opE PA P tb (rdE n env) hp hp.length o.op (fun v E _ => opsE PA P tb n ops rest (puE env o.dst v) (happly hp E) K') → aop P (mkS n env) hp hp.length o.op (fun v E _ => AOps P ops rest (putA (mkS n env) o.dst v) (happly hp E) K) := by
      intro env h
      rw [rdE_mk] at h
      exact aop_mono (fun v E T h => by have := ih _ _ h; rwa [puE_mk] at this) (opE_sound h)
    have hsk : ∀ env, opsE PA P tb n ops rest (puE env o.dst unA) hp K' → AOps P ops rest (putA (mkS n env) o.dst unA) hp K := by
      intro env h
      have := ih _ _ h; rwa [puE_mk] at this
    unfold opsE at h
    unfold AOps
    cases hg : o.guard with
    | none => rw [hg] at h; exact hop _ h
    | some jw =>
      obtain ⟨j, want⟩ := jw
      rw [hg] at h
      dsimp only at h ⊢
      split at h
      · rename_i d hd
        split at h
        · rename_i b hs
          refine ⟨_, guard_b hd (by rw [← lkN_mk]; exact hs), ?_⟩
          rcases brP_iff h with ⟨rfl, h⟩ | ⟨rfl, h⟩
          · cases want with
            | true => have := hop _ h; rw [mk_same hs] at this; exact ⟨fun _ => this, fun e => (by cases e)⟩
            | false => have := hsk _ h; rw [mk_same hs] at this; exact ⟨fun e => (by cases e), fun _ => this⟩
          · cases want with
            | true => have := hsk _ h; rw [mk_same hs] at this; exact ⟨fun e => (by cases e), fun _ => this⟩
            | false => have := hop _ h; rw [mk_same hs] at this; exact ⟨fun _ => this, fun e => (by cases e)⟩
        · rename_i hs
          exact ⟨false, guard_u hd (by rw [← lkN_mk]; exact hs), fun e => (by cases e), fun _ => hsk _ h⟩
        · exact h.elim
      · exact h.elim
theorem drawE_sound {P : Program} {tb : List (CE P)} {n : Nat} {ops : Array Oper} {base : Nat} {K : List AV → Hp → List (List Nat × List Nat) → Prop} {K' : Env → Hp → List (List Nat × List Nat) → Prop} (hK : ∀ env hp acc, K' env hp acc → K (mkS n env) hp acc) : ∀ (l : List Oper) (i : Nat) (env : Env) (hp : Hp) (acc : List (List Nat × List Nat)),
    drawE PA P tb n ops base K' i l env hp acc → ADraw P ops base K i l (mkS n env) hp acc := by
  intro l
  induction l with
  | nil => intro i env hp acc h; exact hK _ _ _ h
  | cons o rest ih =>
    intro i env hp acc h
    have hop : ∀ env, opE PA P tb (rdE n env) hp (base + 8 * i) o.op (fun v E T => drawE PA P tb n ops base K' (i + 1) rest (puE env o.dst v) (happly hp E) (acc ++ [(T, E.map Prod.fst)])) →
        aop P (mkS n env) hp (base + 8 * i) o.op (fun v E T => ADraw P ops base K (i + 1) rest (putA (mkS n env) o.dst v) (happly hp E) (acc ++ [(T, E.map Prod.fst)])) := by
      intro env h
      rw [rdE_mk] at h
      exact aop_mono (fun v E T h => by have := ih _ _ _ _ h; rwa [puE_mk] at this) (opE_sound h)
    have hsk : ∀ env, drawE PA P tb n ops base K' (i + 1) rest (puE env o.dst unA) hp (acc ++ [([], [])]) → ADraw P ops base K (i + 1) rest (putA (mkS n env) o.dst unA) hp (acc ++ [([], [])]) := by
      intro env h
      have := ih _ _ _ _ h; rwa [puE_mk] at this
    unfold drawE at h
    unfold ADraw
    cases hg : o.guard with
    | none => rw [hg] at h; exact hop _ h
    | some jw =>
      obtain ⟨j, want⟩ := jw
      rw [hg] at h
      dsimp only at h ⊢
      split at h
      · rename_i d hd
        split at h
        · rename_i b hs
          refine ⟨_, guard_b hd (by rw [← lkN_mk]; exact hs), ?_⟩
          rcases brP_iff h with ⟨rfl, h⟩ | ⟨rfl, h⟩
          · cases want with
            | true => have := hop _ h; rw [mk_same hs] at this; exact ⟨fun _ => this, fun e => (by cases e)⟩
            | false => have := hsk _ h; rw [mk_same hs] at this; exact ⟨fun e => (by cases e), fun _ => this⟩
          · cases want with
            | true => have := hsk _ h; rw [mk_same hs] at this; exact ⟨fun e => (by cases e), fun _ => this⟩
            | false => have := hop _ h; rw [mk_same hs] at this; exact ⟨fun _ => this, fun e => (by cases e)⟩
        · rename_i hs
          exact ⟨false, guard_u hd (by rw [← lkN_mk]; exact hs), fun e => (by cases e), fun _ => hsk _ h⟩
        · exact h.elim
      · exact h.elim
end Go.Proofs.Ytekdfddodabfcaa
