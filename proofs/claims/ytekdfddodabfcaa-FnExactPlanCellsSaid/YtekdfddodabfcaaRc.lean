/- The engine, part Q: slices that are built or made, the least and the greatest of several numbers, texts out of bytes. -/
import Derived.Test.YtekdfddodabfcaaRb
import Derived.Laws.BytesString
import Derived.Laws.BytesArg
import Derived.IntWalk
import Derived.Laws.StructEq
import Derived.Tactics
import Derived.Orders
namespace Go.Proofs.Ytekdfddodabfcaa
open Go.RowKit
set_option linter.unusedVariables false
set_option linter.unusedSimpArgs false

/-- The cells of n zero elements. -/
def zeros (zs : List Value) (n : Nat) : List Value := (List.range (n * zs.length)).map fun q => zs.getD (q % zs.length) undef

section
variable {P : Program} {G G' : Gh} {On On' : Nat → Prop} {w w' : World} {B : Fr} {w0 : World} {sl : List AV} {hp hp' : Hp} {a : Act} {o : Oper} {nid : Nat}

theorem chunk_get {α : Type} {n sz : Nat} {ds : List α} (hl : ds.length = n * sz) :
    (∀ (i : Nat) cs, (chunk n sz ds)[i]? = some cs → i < n ∧ cs.length = sz) ∧ ∀ (i : Nat) cs (j : Nat) d, (chunk n sz ds)[i]? = some cs → cs[j]? = some d → ds[i * sz + j]? = some d := by
  have key : ∀ (i : Nat) cs, (chunk n sz ds)[i]? = some cs → i < n ∧ cs = (ds.drop (i * sz)).take sz := by
    intro i cs h
    unfold chunk at h
    rw [List.getElem?_map] at h
    simp only [Option.map_eq_some_iff] at h
    obtain ⟨x, hx, rfl⟩ := h
    have hi : i < n := by have := (List.getElem?_eq_some_iff.1 hx).1; simpa using this
    rw [List.getElem?_range hi] at hx
    obtain rfl := Option.some.inj hx
    exact ⟨hi, rfl⟩
  refine ⟨fun i cs h => ?_, fun i cs j d h hd => ?_⟩
  · obtain ⟨hi, rfl⟩ := key i cs h
    refine ⟨hi, ?_⟩
    have : (i + 1) * sz ≤ n * sz := Nat.mul_le_mul_right _ hi
    rw [Nat.add_mul] at this
    simp; omega
  · obtain ⟨hi, rfl⟩ := key i cs h
    have := take_drop_get hd
    exact this

/-- A row that is made here. -/
theorem row_new (h : Rel P B w0 G On ⟨sl, hp⟩ a w) (hn : ¬ On nid) {E n cap : Nat} {arr : Array Value} {flat : List CV} {ds : List DV} {R : List Nat} {es : List Nat} (hz : szT P E ≠ 0) (hall : All2 (Cr P G On w) flat arr.toList) {hp0 : Hp} (hgv : gives hp0 es flat = some (ds, R)) (hnd : R.Nodup) (hT : ∀ x ∈ looksAll hp0 flat, hget hp x.1 = some x.2)
    (hl : ds.length = n * szT P E) (hnc : n ≤ cap) (hcap : cap ≤ maxLen) (harr : cap * szT P E ≤ arr.size + (cap - n) * szT P E) (more : List Value) (hmore : more.length = (cap - n) * szT P E) :
    ∃ G', Rel P B w0 G' (OnE On (drops R ++ [(nid, some (.row false E (chunk n (szT P E) ds)))])) ⟨sl, happly hp (drops R ++ [(nid, some (.row false E (chunk n (szT P E) ds)))])⟩ a (w.alloc (.cells (arr ++ more.toArray) E)) ∧
      Vr P G' (OnE On (drops R ++ [(nid, some (.row false E (chunk n (szT P E) ds)))])) (w.alloc (.cells (arr ++ more.toArray) E)) (.c (.sl nid (chunk n (szT P E) ds).length)) (.slice (some ⟨w.heap.size, 0, none⟩) n cap) := by
  obtain ⟨hlen, T, t1, t2, t3⟩ := gives_sound h hall hgv hnd hT
  have hcl : (chunk n (szT P E) ds).length = n := by simp [chunk]
  obtain ⟨c1, c2⟩ := chunk_get hl
  have hm : M P (w.alloc (.cells (arr ++ more.toArray) E)) (fun k => (∃ r, r ∈ R ∧ (G r).S k) ∨ k = w.heap.size) (.l E (chunk n (szT P E) ds)) (.slice (hd w.heap.size false) (chunk n (szT P E) ds).length cap) := by
    refine .l (arr := arr ++ more.toArray) (vals := fun i j => arr.toList.getD (i * szT P E + j) undef) (F := fun i j k => T (i * szT P E + j) k ∧ j < szT P E) (.inr rfl) (fun i j k hk => ?_) (fun i j i' j' k a b => ?_) (heap_alloc_new w _) (by omega) hcap (by simp; omega)
      (fun i cs hc => (c1 i cs hc).2) (fun i cs j d hc hd => ?_) (fun i cs j d hc hd => ?_)
    · obtain ⟨r, hr, hS⟩ := t2 _ k hk.1
      exact ⟨.inl ⟨r, hr, hS⟩, fun e => by have := (h.own r k hS).2; omega⟩
    · exact idx_inj a.2 b.2 (t3 _ _ _ a.1 b.1)
    · have hq := c2 i cs j d hc hd
      have hlt : i * szT P E + j < arr.size := by rw [← Array.length_toList, ← hlen]; exact (List.getElem?_eq_some_iff.1 hq).1
      rw [Array.getElem?_append_left hlt]
      simp [List.getD, hlt]
    · have hq := c2 i cs j d hc hd
      have hlt : i * szT P E + j < arr.toList.length := by rw [← hlen]; exact (List.getElem?_eq_some_iff.1 hq).1
      have hj : j < szT P E := by rw [← (c1 i cs hc).2]; exact (List.getElem?_eq_some_iff.1 hd).1
      have := t1 _ d arr.toList[i * szT P E + j] hq (List.getElem?_eq_getElem hlt)
      rw [show arr.toList.getD (i * szT P E + j) undef = arr.toList[i * szT P E + j] by simp only [List.getD, List.getElem?_eq_getElem hlt, Option.getD_some]]
      have hm' := (this.lt).mono (S' := fun k => T (i * szT P E + j) k ∧ j < szT P E ∧ k < w.heap.size) (fun k hk => ⟨hk.1, hj, hk.2⟩)
      exact (hm'.move fun k hk => Below.heap_alloc w _ k hk.2.2).mono fun k hk => ⟨hk.1, hk.2.1⟩
  obtain ⟨G', hr', g1, g2⟩ := h.swap hn R (pn := false) (w' := w.alloc (.cells (arr ++ more.toArray) E)) rfl rfl rfl (by simp) (fun k hk _ => Below.heap_alloc w _ k hk) hm (fun k hk => by
    rcases hk with hk | rfl
    · exact .inl hk
    · exact .inr ⟨Nat.le_refl _, by simp⟩)
  exact ⟨G', hr', .inr (by simp), by rw [g1, g2, hcl]; rfl⟩

theorem all2_zeros {zs : List Value} (h : zs.all (·.oneCell') = true) (n : Nat) (hz : zs.length ≠ 0) : All2 (Cr P G On w) ((zeros zs n).map .v) (zeros zs n) := by
  refine all2_v ?_
  simp only [zeros, List.all_map, List.all_eq_true, List.mem_range, Function.comp]
  intro q hq
  have hlt : q % zs.length < zs.length := Nat.mod_lt _ (by omega)
  simp only [List.getD, List.getElem?_eq_getElem hlt, Option.getD_some]
  simp only [List.all_eq_true] at h
  exact h _ (List.getElem_mem hlt)
theorem zeros_arr {z : Value} {zs : List Value} (h : z.cells.toList = zs) (n : Nat) (hz : zs.length ≠ 0) : (Array.range (n * zs.length)).map (z.cells[· % z.cells.size]!) = (zeros zs n).toArray := by
  subst h
  apply Array.ext'
  simp only [Array.toList_map, Array.toList_range, zeros, Array.length_toList]
  apply List.map_congr_left
  intro q hq
  have hlt : q % z.cells.size < z.cells.size := Nat.mod_lt _ (by simpa using Nat.pos_of_ne_zero hz)
  simp [List.getD, hlt, getElem!_pos]

/-- A slice out of its elements. -/
theorem op_buildSlice {t E len : Nat} {ps : Array (Nat × Operand)} {zs : List Value} {ap : List (Nat × List CV)} {flat : List CV} {ds : List DV} {R es : List Nat} (ho : o.op = .buildSlice t len ps) (ht : P.underlying t = some (.slice E)) (hz : zcT P E = some zs) (hsz : szT P E = zs.length) (hz0 : zs.length ≠ 0)
    (hsmall : len * zs.length ≤ 16777216) (hps : partsOf sl ps.toList = some ap) (hf : fillA (fun i => some (i * zs.length, zs.length)) ((zeros zs len).map .v) ap = some flat) (hgv : gives hp es flat = some (ds, R)) (hnd : R.Nodup) :
    OpSem P o (partRs sl ps.toList) (looksAll hp flat) nid (.c (.sl nid (chunk len zs.length ds).length)) (drops R ++ [(nid, some (.row false E (chunk len zs.length ds)))]) := by
  refine opsem_of fun sl' hp' On B w0 G a w hrs hT hn hr => ?_
  obtain ⟨z, hrun, hcs, hall⟩ := zcT_run hz
  have hp1 := parts_sound hr ps.toList ap (by rw [partsOf_same hrs]; exact hps)
  have hzl : z.cells.size = zs.length := by rw [← hcs, Array.length_toList]
  obtain ⟨cells', hfill, hall'⟩ := fill_sound ap _ ((zeros zs len).map .v) flat (zeros zs len).toArray hp1 (by simpa using all2_zeros hall len hz0) hf
  have hflen : flat.length = len * zs.length := by
    have key : ∀ (ap : List (Nat × List CV)) (pl : Nat → Option (Nat × Nat)) (fl fl' : List CV), fillA pl fl ap = some fl' → fl'.length = fl.length := by
      intro ap
      induction ap with
      | nil => intro pl fl fl' h; simp only [fillA, Option.some.injEq] at h; rw [h]
      | cons p ap ih =>
        intro pl fl fl' h
        obtain ⟨i, cs⟩ := p
        simp only [fillA] at h
        split at h
        · split at h
          · rw [ih _ _ _ h, putN_len]
          · cases h
        · cases h
    rw [key _ _ _ _ hf]; simp [zeros]
  have hlen := (gives_sound hr hall' hgv hnd hT).1
  have hds : ds.length = len * szT P E := by rw [hlen, ← hall'.len, hflen, hsz]
  obtain ⟨G', hr', hv⟩ := row_new hr (hn nid (Nat.le_refl _) (by omega)) (E := E) (n := len) (cap := len) (by omega) hall' hgv hnd hT hds (Nat.le_refl _) (by
      have : len ≤ len * zs.length := Nat.le_mul_of_pos_right _ (by omega)
      simp only [maxLen]; omega) (by rw [← Array.length_toList, ← hall'.len, hflen, hsz]; simp) [] (by simp)
  rw [hsz] at hr' hv
  refine ⟨_, _, G', ?_, hr', hv⟩
  have e1 : (ps.map fun x => (x.1, a.eval x.2)).toList = ps.toList.map fun x => (x.1, a.eval x.2) := by simp
  have hso : (sizeOf E).run P w = .ok zs.length w := run_sizeOf hsz hz0 w
  by_cases hl0 : len * zs.length = 0
  · have hlz : len = 0 := by rcases Nat.mul_eq_zero.1 hl0 with h | h; exact h; exact absurd h hz0
    subst hlz
    have hzz : (zeros zs 0).toArray = #[] := by simp [zeros]
    rw [hzz] at hfill
    simp only [execOp, ho, Instr.buildSlice, Sem.run_bind, run_underlying ht, Result.andThen_ok, hso, e1]
    simp [hfill, newRow, Array.range_zero']
  · simp only [execOp, ho, Instr.buildSlice, Sem.run_bind, run_underlying ht, Result.andThen_ok, hso, e1]
    rw [if_neg (by simp; omega), if_neg hl0]
    simp only [Sem.run_bind, Sem.run_pure, Result.andThen_ok, hrun, zeros_arr hcs len hz0, hfill]
    simp [newRow]

/-- make([]T, n). -/
theorem op_makeSlice {x y : Operand} {t E : TypeId} {l c : Int} {kl kc : IntKind} {zs : List Value} {zd : List DV} {by_ : Nat} (ho : o.op = .makeSlice t x y) (ht : P.underlying t = some (.slice E)) (hz : zcT P E = some zs) (hsz : szT P E = zs.length) (hel : elB P E = some by_)
    (hgv : gives [] (etsT P E) (zs.map .v) = some (zd, [])) (h0 : 0 ≤ l) (h1 : l ≤ c) (h2 : c ≤ 140737488355328) (h3 : c * by_ ≤ 281474976710656) :
    OpSem P o [(x, .c (.v (.int kl l))), (y, .c (.v (.int kc c)))] [] nid (.c (.sl nid (List.replicate l.toNat zd).length)) [(nid, some (.row false E (List.replicate l.toNat zd)))] := by
  refine opsem_of fun sl' hp' On B w0 G a w hrs hT hn hr => ?_
  have e1 := ev_sound hr x; rw [rs1 hrs] at e1
  have e2 := ev_sound hr y; rw [rs2 hrs] at e2
  obtain ⟨z, hrun, hcs, hall⟩ := zcT_run hz
  obtain ⟨i, z', hi, hz', hzs', hpos, hb⟩ := elB_spec hel
  have hz0 : zs.length ≠ 0 := by omega
  obtain ⟨hzl, T, t1, t2, _⟩ := gives_sound hr (all2_v (P := P) (G := G) (On := On) (w := w) hall) hgv (by simp) (by
    intro x hx
    simp only [looksAll, List.mem_flatMap, List.mem_map] at hx
    obtain ⟨c, ⟨v, _, rfl⟩, hx⟩ := hx
    simp [looks] at hx)
  have hsc : ∀ (j : Nat) d v, zd[j]? = some d → zs[j]? = some v → M P (w.alloc (.cells (zeros zs c.toNat).toArray E)) (fun _ => False) d v := by
    intro j d v h1 h2
    exact ((t1 j d v h1 h2).mono (fun k hk => by obtain ⟨r, hr, _⟩ := t2 j k hk; cases hr)).move (fun _ h => h.elim)
  have hrep : ∀ (i : Nat) cs, (List.replicate l.toNat zd)[i]? = some cs → i < l.toNat ∧ cs = zd := by
    intro i cs h
    rw [List.getElem?_replicate] at h
    split at h
    · exact ⟨by assumption, (Option.some.inj h).symm⟩
    · cases h
  have hzdl : zd.length = szT P E := by rw [hzl, hsz]
  have hm : M P (w.alloc (.cells (zeros zs c.toNat).toArray E)) (fun k => (∃ r, r ∈ ([] : List Nat) ∧ (G r).S k) ∨ k = w.heap.size) (.l E (List.replicate l.toNat zd)) (.slice (hd w.heap.size false) (List.replicate l.toNat zd).length c.toNat) := by
    refine .l (arr := (zeros zs c.toNat).toArray) (vals := fun _ j => zs.getD j undef) (F := fun _ _ _ => False) (.inr rfl) (fun _ _ _ h => h.elim) (fun _ _ _ _ _ h => h.elim) (heap_alloc_new w _) (by simp; omega) (by simp only [maxLen]; omega) (by simp [zeros, hsz])
      (fun i cs h => by rw [(hrep i cs h).2, hzdl]) (fun i cs j d h h' => ?_) (fun i cs j d h h' => ?_)
    · obtain ⟨hi', rfl⟩ := hrep i cs h
      have hj : j < zs.length := by rw [← hsz, ← hzdl]; exact (List.getElem?_eq_some_iff.1 h').1
      have hlt : i * zs.length + j < c.toNat * zs.length := idx_lt (by omega) hj
      rw [hsz]
      simp only [List.getElem?_toArray, zeros, List.getElem?_map, List.getElem?_range hlt, Option.map_some]
      rw [show (i * zs.length + j) % zs.length = j by rw [Nat.add_comm, Nat.add_mul_mod_self_right, Nat.mod_eq_of_lt hj]]
    · obtain ⟨_, rfl⟩ := hrep i cs h
      have hj : j < zs.length := by rw [← hsz, ← hzdl]; exact (List.getElem?_eq_some_iff.1 h').1
      simp only [List.getD, List.getElem?_eq_getElem hj, Option.getD_some]
      exact hsc j d _ h' (List.getElem?_eq_getElem hj)
  obtain ⟨G', hr', g1, g2⟩ := hr.swap (hn nid (Nat.le_refl _) (by omega)) [] (pn := false) (w' := w.alloc (.cells (zeros zs c.toNat).toArray E)) rfl rfl rfl (by simp) (fun k hk _ => Below.heap_alloc w _ k hk) hm (fun k hk => by
    rcases hk with hk | rfl
    · exact .inl hk
    · exact .inr ⟨Nat.le_refl _, by simp⟩)
  refine ⟨.slice (some ⟨w.heap.size, 0, none⟩) l.toNat c.toNat, _, G', ?_, hr', .inr (by simp [drops]), by rw [g1, g2]; simp [hd]⟩
  have w1 : IntKind.i64.wrap l = l := IntWalk.i64_in _ (by omega)
  have w2 : IntKind.i64.wrap c = c := IntWalk.i64_in _ (by omega)
  have hso : (sizeOf E).run P w = .ok zs.length w := run_sizeOf hsz hz0 w
  have hby : ((i.bytes : Int) * c) ≤ 281474976710656 := by rw [hb, Int.mul_comm]; exact h3
  simp only [execOp, ho, Instr.makeSlice, Sem.run_bind, run_underlying ht, Result.andThen_ok, vr_v e1, vr_v e2, asInt, asIntOf, Sem.run_pure, w1, w2, typeInfo, run_program, hi]
  rw [if_neg (by simp; omega)]
  simp only [Sem.run_bind, run_askRoom, Result.andThen_ok, hso]
  by_cases hl0 : c.toNat * zs.length = 0
  · have : (zeros zs c.toNat).toArray = #[] := by simp [zeros, hl0]
    rw [if_pos hl0, this]
    simp [hl0, newRow, Array.range_zero']
  · rw [if_neg hl0]
    simp only [Sem.run_bind, Sem.run_pure, Result.andThen_ok, hrun, zeros_arr hcs c.toNat hz0]
    simp [newRow]

/-- The least, or the greatest, of several numbers. -/
def intsOf (sl : List AV) (k : IntKind) : List Operand → Option (List Int)
  | [] => some []
  | x :: r => match ev sl x, intsOf sl k r with
    | .c (.v (.int k' n)), some ns => if k' = k then some (n :: ns) else none
    | _, _ => none
def mn2 (x y : Int) : Int := if y < x then y else x
def mx2 (x y : Int) : Int := if y > x then y else x
theorem ints_sound (h : Rel P B w0 G On ⟨sl, hp⟩ a w) {k : IntKind} : ∀ (l : List Operand) (ns : List Int), intsOf sl k l = some ns → l.map a.eval = ns.map (Value.int k) := by
  intro l
  induction l with
  | nil => intro ns h; simp only [intsOf, Option.some.injEq] at h; subst h; rfl
  | cons x l ih =>
    intro ns h1
    simp only [intsOf] at h1
    split at h1
    · rename_i k' n ns' e1 e2
      split at h1
      · rename_i hk
        subst hk
        injection h1 with h1; subst h1
        have hv := ev_sound h x
        rw [e1] at hv
        simp [ih ns' e2, vr_v hv]
      · cases h1
    · cases h1
theorem intsOf_same {sl sl' : List AV} {k : IntKind} : ∀ {l : List Operand}, (∀ x ∈ l.map (fun x => (x, ev sl x)), ev sl' x.1 = x.2) → intsOf sl' k l = intsOf sl k l := by
  intro l
  induction l with
  | nil => intro _; rfl
  | cons x l ih =>
    intro h
    simp only [intsOf]
    rw [ih (fun y hy => h y (by simp only [List.map_cons, List.mem_cons]; exact .inr hy))]
    have := h (x, ev sl x) (by simp)
    simp only at this
    rw [this]
theorem op_min {xs : Array Operand} {ts : Array TypeId} {k : IntKind} {n : Int} {ns : List Int} (ho : o.op = .call ⟨.builtin .min, xs, ts⟩) (hi : intsOf sl k xs.toList = some (n :: ns)) :
    OpSem P o (xs.toList.map fun x => (x, ev sl x)) [] nid (.c (.v (.int k (ns.foldl mn2 n)))) [] := by
  refine opsem_val fun sl' hp' On B w0 G a w hrs hT hr => ⟨.int k (ns.foldl mn2 n), ?_, rfl, rfl⟩
  have hv := ints_sound hr xs.toList (n :: ns) (by rw [intsOf_same hrs]; exact hi)
  have key : ∀ (ns : List Int) (n : Int), ((ns.map (Value.int k)).foldlM Builtin.min2 (Value.int k n)).run P w = .ok (.int k (ns.foldl mn2 n)) w := by
    intro ns
    induction ns with
    | nil => intro n; simp
    | cons m ns ih => intro n; simp only [List.map_cons, List.foldlM_cons, Sem.run_bind, Builtin.min2, Sem.run_pure, Result.andThen_ok, ih, List.foldl_cons]; rfl
  have e1 : (xs.map a.eval).toList = (n :: ns).map (Value.int k) := by simpa using hv
  simp only [execOp, ho, resolve, invoke, builtin, Builtin.min_, e1, List.map_cons, Sem.run_bind, Sem.run_pure, Result.andThen_ok, key]
theorem op_max {xs : Array Operand} {ts : Array TypeId} {k : IntKind} {n : Int} {ns : List Int} (ho : o.op = .call ⟨.builtin .max, xs, ts⟩) (hi : intsOf sl k xs.toList = some (n :: ns)) :
    OpSem P o (xs.toList.map fun x => (x, ev sl x)) [] nid (.c (.v (.int k (ns.foldl mx2 n)))) [] := by
  refine opsem_val fun sl' hp' On B w0 G a w hrs hT hr => ⟨.int k (ns.foldl mx2 n), ?_, rfl, rfl⟩
  have hv := ints_sound hr xs.toList (n :: ns) (by rw [intsOf_same hrs]; exact hi)
  have key : ∀ (ns : List Int) (n : Int), ((ns.map (Value.int k)).foldlM Builtin.max2 (Value.int k n)).run P w = .ok (.int k (ns.foldl mx2 n)) w := by
    intro ns
    induction ns with
    | nil => intro n; simp
    | cons m ns ih => intro n; simp only [List.map_cons, List.foldlM_cons, Sem.run_bind, Builtin.max2, Sem.run_pure, Result.andThen_ok, ih, List.foldl_cons]; rfl
  have e1 : (xs.map a.eval).toList = (n :: ns).map (Value.int k) := by simpa using hv
  simp only [execOp, ho, resolve, invoke, builtin, Builtin.max_, e1, List.map_cons, Sem.run_bind, Sem.run_pure, Result.andThen_ok, key]
end
end Go.Proofs.Ytekdfddodabfcaa
/- The engine, part Qa: structs of plain cells compared; sets of such structs (maps to true). -/
namespace Go.Proofs.Ytekdfddodabfcaa
open Go.RowKit
set_option linter.unusedVariables false
set_option linter.unusedSimpArgs false

/-- Fields that are plain cells, one behind the other from place k on. -/
def flatB (P : Program) : Nat → List Field → Bool
  | _, [] => true
  | k, f :: fs => f.name != "_" && f.offset == k && (match P.underlying f.type with
    | some (.int _) | some .string | some .bool => true
    | _ => false) && flatB P (k + 1) fs
def eqV : Value → Value → Bool
  | .int _ a, .int _ b => a == b
  | .string a, .string b => a.toList == b.toList
  | .bool a, .bool b => a == b
  | _, _ => false
def eqVs : List Value → List Value → Bool
  | [], [] => true
  | x :: xs, y :: ys => eqV x y && eqVs xs ys
  | _, _ => false
def fitV (P : Program) (t : TypeId) : Value → Bool
  | .int k _ => match P.underlying t with
    | some (.int q) => decide (k = q)
    | _ => false
  | .string _ => match P.underlying t with
    | some .string => true
    | _ => false
  | .bool _ => match P.underlying t with
    | some .bool => true
    | _ => false
  | _ => false
def fitVs (P : Program) : List Field → List Value → Bool
  | [], [] => true
  | f :: fs, v :: vs => fitV P f.type v && fitVs P fs vs
  | _, _ => false
/-- A struct of plain cells that may be compared. -/
def eqT (P : Program) (t : TypeId) : Option (List Field) :=
  match P.underlying t with
  | some (.struct fs) => if flatB P 0 fs.toList && !P.stoodInHeld t && !P.eqGuardType P.depth t then some fs.toList else none
  | _ => none

section
variable {P : Program} {w : World}
theorem run_part_flat {f : Field} {vs : Array Value} {v : Value} (hf : (match P.underlying f.type with | some (.int _) | some .string | some .bool => true | _ => false) = true) (hv : vs[f.offset]? = some v) : (part f.type vs f.offset).run P w = .ok v w := by
  have hag : aggT P f.type = some false := by
    unfold aggT
    split at hf <;> simp_all
  unfold part
  simp only [Sem.run_bind, run_isAgg hag, Result.andThen_ok, Bool.false_eq_true, if_false, hv, Sem.run_pure]
theorem run_equalIn_flat {d : Nat} {t : TypeId} {x y : Value} (hx : fitV P t x = true) (hy : fitV P t y = true) : (Op.equalIn (d + 1) t x y).run P w = .ok (eqV x y) w := by
  cases x <;> simp only [fitV, Bool.false_eq_true] at hx <;> first | contradiction | skip
  all_goals split at hx <;> first | contradiction | skip
  all_goals rename_i hu
  all_goals cases y <;> simp only [fitV, hu, Bool.false_eq_true, decide_eq_true_eq] at hy hx <;> first | contradiction | skip
  · rw [run_equalIn_bool' w d t _ _ hu]; rfl
  · subst hx; subst hy; rw [run_equalIn_int w d t _ _ _ _ hu]; rfl
  · rw [run_equalIn_string w d t _ _ hu]; rfl
theorem run_eqFields_flat {d : Nat} {X Y : Array Value} : ∀ (fs : List Field) (k : Nat) (xs ys : List Value), flatB P k fs = true → fitVs P fs xs = true → fitVs P fs ys = true → xs = X.toList.drop k → ys = Y.toList.drop k →
    (Op.eqFields (d + 1) X Y fs).run P w = .ok (eqVs xs ys) w := by
  intro fs
  induction fs with
  | nil =>
    intro k xs ys _ hx hy _ _
    cases xs <;> cases ys <;> simp only [fitVs, Bool.false_eq_true] at hx hy
    rfl
  | cons f fs ih =>
    intro k xs ys hf hx hy ex ey
    cases xs <;> cases ys <;> simp only [fitVs, Bool.false_eq_true, Bool.and_eq_true] at hx hy
    rename_i x xs y ys
    simp only [flatB, Bool.and_eq_true, bne_iff_ne, ne_eq, beq_iff_eq] at hf
    obtain ⟨⟨⟨hn, ho⟩, hu⟩, hr⟩ := hf
    have hX : X[f.offset]? = some x := by
      have : (X.toList.drop k)[0]? = some x := by rw [← ex]; rfl
      rw [ho]; simpa using this
    have hY : Y[f.offset]? = some y := by
      have : (Y.toList.drop k)[0]? = some y := by rw [← ey]; rfl
      rw [ho]; simpa using this
    have hX' : xs = X.toList.drop (k + 1) := by
      have : (X.toList.drop k).drop 1 = xs := by rw [← ex]; rfl
      rw [← this, List.drop_drop]
    have hY' : ys = Y.toList.drop (k + 1) := by
      have : (Y.toList.drop k).drop 1 = ys := by rw [← ey]; rfl
      rw [← this, List.drop_drop]
    simp only [Op.eqFields, hn, ne_eq, not_false_eq_true, if_true, Sem.run_bind, run_part_flat hu hX, run_part_flat hu hY, Result.andThen_ok, run_equalIn_flat hx.1 hy.1]
    cases he : eqV x y with
    | false => simp [eqVs, he]
    | true => simp only [Bool.not_true, Bool.false_eq_true, if_false, eqVs, he, Bool.true_and]; exact ih (k + 1) xs ys hr hx.2 hy.2 hX' hY'
theorem eqT_spec {t : TypeId} {fs : List Field} (h : eqT P t = some fs) : P.underlying t = some (.struct (P.fieldsOf t)) ∧ (P.fieldsOf t).toList = fs ∧ flatB P 0 fs = true ∧ P.stoodInHeld t = false ∧ P.eqGuardType P.depth t = false := by
  unfold eqT at h
  split at h
  · rename_i fs0 hu
    split at h
    · rename_i hb
      injection h with h; subst h
      simp only [Bool.and_eq_true, Bool.not_eq_true'] at hb
      refine ⟨by rw [hu]; simp [Program.fieldsOf, hu], by simp [Program.fieldsOf, hu], hb.1.1, hb.1.2, hb.2⟩
    · cases h
  · cases h
theorem run_equal_flat {d : Nat} {t : TypeId} {fs : List Field} {xs ys : List Value} (h : eqT P t = some fs) (hx : fitVs P fs xs = true) (hy : fitVs P fs ys = true) : (Op.equalIn (d + 2) t (.agg xs.toArray) (.agg ys.toArray)).run P w = .ok (eqVs xs ys) w := by
  obtain ⟨h1, h2, h3, h4, _⟩ := eqT_spec h
  rw [run_equalIn_struct w (d + 1) t _ _ h1 h4, h2]
  exact run_eqFields_flat fs 0 xs ys h3 hx hy (by simp) (by simp)

/-! ### Sets. -/
def emptyO : Obj := .map #[] 0
/-- A set: what it holds are such structs, all to true. -/
def SetO (P : Program) (fs : List Field) (o : Obj) : Prop := ∃ es clk, o = .map es clk ∧ ∀ e ∈ es.toList, (∃ ks, e.key = .agg ks.toArray ∧ fitVs P fs ks = true) ∧ e.val = .bool true
def memO (o : Obj) (ks : List Value) : Bool := match o with
  | .map es _ => es.toList.any fun e => match e.key with
    | .agg c => eqVs ks c.toList
    | _ => false
  | _ => false
def insO (o : Obj) (ks : List Value) : Obj := match o with
  | .map es clk => .map (es.push ⟨.agg ks.toArray, .bool true, clk⟩) (clk + 1)
  | o => o
theorem setO_empty {fs : List Field} : SetO P fs emptyO := ⟨#[], 0, rfl, by simp⟩
theorem memO_empty {ks : List Value} : memO emptyO ks = false := rfl
theorem setO_ins {fs : List Field} {o : Obj} {ks : List Value} (h : SetO P fs o) (hk : fitVs P fs ks = true) : SetO P fs (insO o ks) := by
  obtain ⟨es, clk, rfl, he⟩ := h
  refine ⟨_, _, rfl, fun e hm => ?_⟩
  simp only [Array.toList_push, List.mem_append, List.mem_singleton] at hm
  rcases hm with hm | rfl
  · exact he e hm
  · exact ⟨⟨ks, rfl, hk⟩, rfl⟩
theorem memO_ins {fs : List Field} {o : Obj} {ks ms : List Value} (h : SetO P fs o) : memO (insO o ks) ms = (memO o ms || eqVs ms ks) := by
  obtain ⟨es, clk, rfl, he⟩ := h
  simp [memO, insO]

theorem run_forIn_flat {xs : List Value} (F : Field → PUnit → Sem (ForInStep PUnit)) (hF : ∀ (f : Field) y, f.name ≠ "_" → (match P.underlying f.type with | some (.int _) | some .string | some .bool => true | _ => false) = true → xs.toArray[f.offset]? = some y → (F f PUnit.unit).run P w = .ok (.yield PUnit.unit) w) :
    ∀ (fs : List Field) (k : Nat) (ys : List Value), flatB P k fs = true → fitVs P fs ys = true → ys = xs.drop k → (forIn fs PUnit.unit F).run P w = .ok PUnit.unit w := by
  intro fs
  induction fs with
  | nil => intro k ys _ _ _; rfl
  | cons f fs ih =>
    intro k ys hf hy ey
    cases ys <;> simp only [fitVs, Bool.false_eq_true, Bool.and_eq_true] at hy
    rename_i y ys
    simp only [flatB, Bool.and_eq_true, bne_iff_ne, ne_eq, beq_iff_eq] at hf
    obtain ⟨⟨⟨hn, ho⟩, hu⟩, hr⟩ := hf
    have hX : xs.toArray[f.offset]? = some y := by
      have : (xs.drop k)[0]? = some y := by rw [← ey]; rfl
      rw [ho]; simpa using this
    have hX' : ys = xs.drop (k + 1) := by
      have : (xs.drop k).drop 1 = ys := by rw [← ey]; rfl
      rw [← this, List.drop_drop]
    simp only [List.forIn_cons, Sem.run_bind, hF f y hn hu hX, Result.andThen_ok]
    exact ih (k + 1) ys hr hy.2 hX'
theorem run_checkKey_flat {em : Bool} {n : Nat} {t : TypeId} {fs : List Field} {xs : List Value} (h : eqT P t = some fs) (hx : fitVs P fs xs = true) : (Instr.checkKey em (n + 2) t (.agg xs.toArray)).run P w = .ok () w := by
  obtain ⟨h1, h2, h3, _⟩ := eqT_spec h
  unfold Instr.checkKey
  simp only [Sem.run_bind, run_underlying h1, Result.andThen_ok]
  rw [← Array.forIn_toList, h2, run_forIn_flat (P := P) (w := w) (xs := xs) _ (fun f y hn hu hX => ?_) fs 0 xs h3 hx (by simp)]
  · rfl
  have hck : (Instr.checkKey em (n + 1) f.type y).run P w = .ok () w := by
    unfold Instr.checkKey
    cases hu' : P.underlying f.type with
    | none => rw [hu'] at hu; cases hu
    | some u =>
      rw [hu'] at hu
      simp only [Sem.run_bind, run_underlying hu', Result.andThen_ok]
      cases u <;> first | (simp at hu; done) | (cases y <;> rfl)
  simp only [Sem.run_bind, ne_eq, hn, not_false_eq_true, if_true, run_part_flat hu hX, Result.andThen_ok, hck, Sem.run_pure]
theorem fitVs_len : ∀ {fs : List Field} {ks ms : List Value}, fitVs P fs ks = true → fitVs P fs ms = true → ks.length = ms.length := by
  intro fs
  induction fs with
  | nil => intro ks ms h1 h2; cases ks <;> cases ms <;> simp_all [fitVs]
  | cons f fs ih => intro ks ms h1 h2; cases ks <;> cases ms <;> simp_all [fitVs]; exact ih h1.2 h2.2
theorem run_find_flat {t : TypeId} {fs : List Field} {ks : List Value} (h : eqT P t = some fs) (hk : fitVs P fs ks = true) : ∀ (es : List MapEntry) (i : Nat), (∀ e ∈ es, (∃ ks, e.key = .agg ks.toArray ∧ fitVs P fs ks = true) ∧ e.val = .bool true) →
    ∃ r, (Instr.findAsking t (.agg ks.toArray) es i).run P w = .ok r w ∧ ((es.any fun e => match e.key with | .agg c => eqVs ks c.toList | _ => false) = true → ∃ j, r = some (j, .bool true)) ∧
      ((es.any fun e => match e.key with | .agg c => eqVs ks c.toList | _ => false) = false → r = none) := by
  intro es
  induction es with
  | nil => intro i _; exact ⟨none, rfl, by simp, fun _ => rfl⟩
  | cons e es ih =>
    intro i he
    obtain ⟨⟨ms, h1, h2⟩, h3⟩ := he e (by simp)
    obtain ⟨key, val, born⟩ := e
    simp only at h1 h3
    subst h1; subst h3
    have hq : (Op.equal t (.agg ks.toArray) (.agg ms.toArray)).run P w = .ok (eqVs ks ms) w := by
      unfold Op.equal Op.maxDepth
      exact run_equal_flat (d := 9998) h hk h2
    cases hb : eqVs ks ms with
    | true =>
      refine ⟨some (i, .bool true), ?_, fun _ => ⟨i, rfl⟩, by simp [hb]⟩
      unfold Instr.findAsking
      simp [hq, hb]
    | false =>
      obtain ⟨r, r1, r2, r3⟩ := ih (i + 1) (fun e he' => he e (by simp [he']))
      refine ⟨r, ?_, fun hh => r2 (by simpa [hb] using hh), fun hh => r3 (by simpa [hb] using hh)⟩
      unfold Instr.findAsking
      simp [hq, hb, r1]
theorem run_findKey_flat {t : TypeId} {fs : List Field} {ks : List Value} (h : eqT P t = some fs) (hk : fitVs P fs ks = true) (es : List MapEntry) (he : ∀ e ∈ es, (∃ ks, e.key = .agg ks.toArray ∧ fitVs P fs ks = true) ∧ e.val = .bool true) :
    ∃ r, (Instr.findKey t (.agg ks.toArray) es).run P w = .ok r w ∧ ((es.any fun e => match e.key with | .agg c => eqVs ks c.toList | _ => false) = true → ∃ j, r = some (j, .bool true)) ∧
      ((es.any fun e => match e.key with | .agg c => eqVs ks c.toList | _ => false) = false → r = none) := by
  obtain ⟨h1, _⟩ := eqT_spec h
  cases es with
  | nil => exact ⟨none, by simp [Instr.findKey, run_underlying h1, Instr.findNow], by simp, fun _ => rfl⟩
  | cons e es =>
    obtain ⟨r, r1, r2⟩ := run_find_flat (w := w) h hk (e :: es) 0 he
    refine ⟨r, ?_, r2⟩
    obtain ⟨⟨ms, hk1, _⟩, _⟩ := he e (by simp)
    have hn : Instr.findNow (.struct (P.fieldsOf t)) (.agg ks.toArray) (e :: es) 0 = none := by
      simp [Instr.findNow, Instr.sameNow]
    simp [Instr.findKey, run_underlying h1, hn, r1]
theorem run_lookup_flat {t kt et : TypeId} {fs : List Field} {ks : List Value} {b : Nat} {o : Obj} (ht : P.underlying t = some (.map kt et)) (h : eqT P kt = some fs) (hk : fitVs P fs ks = true) (hz : (zeroValue et).run P w = .ok (.bool false) w)
    (hb : w.heap[b]? = some o) (ho : SetO P fs o) : (Instr.lookup t (.map (some b)) (.agg ks.toArray) false).run P w = .ok (.bool (memO o ks)) w := by
  obtain ⟨es, clk, rfl, he⟩ := ho
  obtain ⟨r, r1, r2, r3⟩ := run_findKey_flat (w := w) h hk es.toList he
  have hck := run_checkKey_flat (w := w) (em := es.isEmpty) (n := 9998) h hk
  have hg : (getObj b).run P w = .ok (.map es clk) w := by simp [getObj, Sem.run, hb]
  unfold Instr.lookup
  simp only [Sem.run_bind, run_underlying ht, Result.andThen_ok, hg, Sem.run_pure]
  rw [hck]
  simp only [Result.andThen_ok, r1]
  cases hm : memO (.map es clk) ks with
  | true => obtain ⟨j, rfl⟩ := r2 hm; simp
  | false => obtain rfl := r3 hm; simp [hz]
theorem run_update_flat {t kt et : TypeId} {fs : List Field} {ks : List Value} {b : Nat} {o : Obj} (ht : P.underlying t = some (.map kt et)) (h : eqT P kt = some fs) (hk : fitVs P fs ks = true)
    (hb : w.heap[b]? = some o) (ho : SetO P fs o) (hm : memO o ks = false) : (Instr.mapUpdate t (.map (some b)) (.agg ks.toArray) (.bool true)).run P w = .ok () { w with heap := w.heap.setIfInBounds b (insO o ks) } := by
  obtain ⟨es, clk, rfl, he⟩ := ho
  obtain ⟨r, r1, r2, r3⟩ := run_findKey_flat (w := w) h hk es.toList he
  have hck := run_checkKey_flat (w := w) (em := false) (n := 9998) h hk
  have hg : (getObj b).run P w = .ok (.map es clk) w := by simp [getObj, Sem.run, hb]
  obtain rfl := r3 hm
  unfold Instr.mapUpdate
  simp only [Sem.run_bind, run_underlying ht, Result.andThen_ok, hg, Sem.run_pure]
  rw [hck]
  simp only [Result.andThen_ok, r1]
  simp [setObj, Sem.run, hb, insO]
end
end Go.Proofs.Ytekdfddodabfcaa
/- The engine, part Qb: structs compared, sets made, asked and written, a nil check, bytes as a string. -/
namespace Go.Proofs.Ytekdfddodabfcaa
open Go.RowKit
set_option linter.unusedVariables false
set_option linter.unusedSimpArgs false

/-- Cells that are known values. -/
def valsC : List CV → Option (List Value)
  | [] => some []
  | .v x :: l => (valsC l).map (x :: ·)
  | _ => none
def setWorld (w : World) (b : Nat) (o : Obj) : World := { w with heap := w.heap.setIfInBounds b o }
theorem setWorld_other (w : World) (b : Nat) (o : Obj) {k : Nat} (h : k ≠ b) : (setWorld w b o).heap[k]? = w.heap[k]? := by
  simp [setWorld, Array.getElem?_setIfInBounds, Ne.symm h]
theorem setWorld_same (w : World) (b : Nat) (o : Obj) (h : b < w.heap.size) : (setWorld w b o).heap[b]? = some o := by
  simp [setWorld, Array.getElem?_setIfInBounds, h]

section
variable {P : Program} {G G' : Gh} {On On' : Nat → Prop} {w w' : World} {B : Fr} {w0 : World} {sl : List AV} {hp hp' : Hp} {a : Act} {o : Oper} {nid : Nat}

theorem valsC_sound : ∀ {cs : List CV} {xs : List Value} {vs : List Value}, valsC cs = some xs → All2 (Cr P G On w) cs vs → vs = xs := by
  intro cs
  induction cs with
  | nil => intro xs vs h ha; cases ha; injection h
  | cons c cs ih =>
    intro xs vs h ha
    cases c <;> simp only [valsC, reduceCtorEq, Option.map_eq_some_iff] at h
    obtain ⟨l, hl, rfl⟩ := h
    cases ha with
    | cons h0 h1 => obtain ⟨rfl, _⟩ := h0; rw [ih hl h1]
theorem ag_vals {cs : List CV} {xs : List Value} {y : Value} (h : valsC cs = some xs) (hv : Vr P G On w (.ag cs) y) : y = .agg xs.toArray := by
  obtain ⟨vs, rfl, ha⟩ := hv
  have := valsC_sound h ha
  rw [← this]

theorem op_eqAg {t t' : TypeId} {x y : Operand} {cs ds : List CV} {xs ys : List Value} {fs : List Field} {ng : Bool} (ho : o.op = .binOp (if ng then .neq else .eql) t x y t') (ht : eqT P t = some fs) (hx : valsC cs = some xs) (hy : valsC ds = some ys)
    (fx : fitVs P fs xs = true) (fy : fitVs P fs ys = true) : OpSem P o [(x, .ag cs), (y, .ag ds)] [] nid (.c (.v (.bool (if ng then !eqVs xs ys else eqVs xs ys)))) [] := by
  refine opsem_val fun sl hp On B w0 G a w hrs _ hr => ⟨_, ?_, rfl, rfl⟩
  have h1 := rs1 hrs; have h2 := rs2 hrs
  have e1 := ev_sound hr x; rw [h1] at e1
  have e2 := ev_sound hr y; rw [h2] at e2
  have v1 := ag_vals hx e1
  have v2 := ag_vals hy e2
  obtain ⟨_, _, _, _, hg⟩ := eqT_spec ht
  have hq := run_equal_flat (w := w) (d := 9998) ht fx fy
  simp only [execOp, ho, v1, v2, Sem.run_bind, run_eqGuard_agg w _ t x y _ _ hg, Result.andThen_ok]
  cases ng
  · simp only [Bool.false_eq_true, if_false, run_eql_struct, hq, Result.andThen_ok, Sem.run_pure]
  · simp only [if_true, run_neq_struct, hq, Result.andThen_ok, Sem.run_pure]

theorem run_eql_bo {t : TypeId} {a b : Bool} (ht : P.underlying t = some .bool) : (binOp .eql t (.bool a) (.bool b)).run P w = .ok (.bool (a == b)) w := by
  have h := run_equalIn_bool' (P := P) w 9999 t a b ht
  simp only [binOp, Op.equal, Op.maxDepth, Sem.run_bind, h, Result.andThen_ok, Sem.run_pure]
theorem run_neq_bo {t : TypeId} {a b : Bool} (ht : P.underlying t = some .bool) : (binOp .neq t (.bool a) (.bool b)).run P w = .ok (.bool (!(a == b))) w := by
  have h := run_equalIn_bool' (P := P) w 9999 t a b ht
  simp only [binOp, Op.equal, Op.maxDepth, Sem.run_bind, h, Result.andThen_ok, Sem.run_pure]
theorem run_guard_bo {op : BinOp} {t : TypeId} {x y : Operand} {a b : Bool} : (eqGuard op t x y (.bool a) (.bool b)).run P w = .ok () w := by
  cases op <;> simp [eqGuard]
theorem op_eqBo {t t' : TypeId} {x y : Operand} {b c ng : Bool} (ho : o.op = .binOp (if ng then .neq else .eql) t x y t') (ht : P.underlying t = some .bool) :
    OpSem P o [(x, .c (.v (.bool b))), (y, .c (.v (.bool c)))] [] nid (.c (.v (.bool (if ng then !(b == c) else b == c)))) [] := by
  refine opsem_val fun sl hp On B w0 G a w hrs _ hr => ⟨_, ?_, rfl, rfl⟩
  have h1 := rs1 hrs; have h2 := rs2 hrs
  have e1 := ev_sound hr x; rw [h1] at e1
  have e2 := ev_sound hr y; rw [h2] at e2
  obtain ⟨v1, _⟩ := e1
  obtain ⟨v2, _⟩ := e2
  simp only [execOp, ho, v1, v2, Sem.run_bind, run_guard_bo, Result.andThen_ok]
  cases ng
  · simp only [Bool.false_eq_true, if_false, run_eql_bo ht, Result.andThen_ok, Sem.run_pure]
  · simp only [if_true, run_neq_bo ht, Result.andThen_ok, Sem.run_pure]

theorem op_nilC {x : Operand} {c c' : CV} (ho : o.op = .nilCheck x) (hc : addC 0 c = some c') : OpSem P o [(x, .c c)] [] nid (.c c) [] := by
  refine opsem_val fun sl hp On B w0 G a w hrs _ hr => ⟨a.eval x, ?_, ?_⟩
  · have h1 := rs1 hrs
    have e1 := ev_sound hr x; rw [h1] at e1
    obtain ⟨ad, hv, _⟩ := cr_add e1 hc
    simp [execOp, ho, hv]
  · have h1 := rs1 hrs
    have e1 := ev_sound hr x; rw [h1] at e1; exact e1

/-- An object takes another's place. -/
theorem Rel.setOb (h : Rel P B w0 G On ⟨sl, hp⟩ a w) {id : Nat} {ob : Obj} (hg : hget hp id = some (.ob ob)) (o' : Obj) :
    Rel P B w0 G On ⟨sl, hput hp id (some (.ob o'))⟩ a (setWorld w (G id).b o') := by
  obtain ⟨ho, hS, hnp, hh⟩ := h.hp id _ hg
  have hne : ∀ i k, (G i).S k → i ≠ id → k ≠ (G id).b := fun i k hk e e' => e (h.dis i id k hk (e' ▸ hS))
  have hs : Stay G On w G On (setWorld w (G id).b o') := by
    refine ⟨fun _ h => h, fun k hk => ⟨⟨by simpa [setWorld] using hk.1, hk.2⟩, setWorld_other _ _ _ (fun e => hk.2 id (e ▸ hS))⟩, fun i _ => ⟨rfl, rfl, rfl, rfl, fun _ _ h => h⟩, fun i j j' u _ hp' hcl => ?_⟩
    have hi : i ≠ id := fun e => hnp j j' (e ▸ hp')
    have hb := hne i _ (pin_own h hp').1 hi
    rw [World.cell?_of_block (w := w) (setWorld_other w _ o' hb)]; exact hcl
  refine h.turn hs ⟨rfl, rfl, rfl, by simp [setWorld], fun k hk => setWorld_other _ _ _ (fun e => (h.own id _ hS).1 (e ▸ hk))⟩ (fun i x hk => ?_) (fun i k hk => by have := h.own i k hk; simpa [setWorld] using this) (fun i hk => ?_) h.dis
  · by_cases e : i = id
    · subst e
      rw [hget_hput_same] at hk
      obtain rfl := Option.some.inj hk
      exact ⟨ho, hS, hnp, setWorld_same _ _ _ (h.own i _ hS).2⟩
    · rw [hget_hput_ne _ _ e] at hk
      exact ⟨(h.hp i x hk).1, (h.hp i x hk).2.stay hs fun k hS' => setWorld_other _ _ _ (hne i k hS' e)⟩
  · by_cases e : i = id
    · subst e; rw [hget_hput_same] at hk; cases hk
    · rw [hget_hput_ne _ _ e] at hk; exact h.dead i hk
/-- A new object. -/
theorem Rel.newOb (h : Rel P B w0 G On ⟨sl, hp⟩ a w) {nid : Nat} (hn : ¬ On nid) (ob : Obj) :
    ∃ G', Rel P B w0 G' (OnE On [(nid, some (.ob ob))]) ⟨sl, hput hp nid (some (.ob ob))⟩ a (w.alloc ob) ∧ (G' nid).b = w.heap.size := by
  refine ⟨_, h.fresh hn ⟨w.heap.size, false, 0, 0, fun k => k = w.heap.size, fun _ _ => False⟩ (.ob ob) (fun k hk => ?_) (below_alloc1 w _) fun G' On' hs _ _ => ?_, by simp⟩
  · subst hk; simp
  · exact ⟨rfl, fun _ _ h => h, heap_alloc_new w _⟩

theorem op_makeMap {t : TypeId} (ho : o.op = .makeMap t none) : OpSem P o [] [] nid (.c (.mp nid)) [(nid, some (.ob emptyO))] := by
  refine opsem_of fun sl hp On B w0 G a w _ _ hn hr => ?_
  obtain ⟨G', hr', hb⟩ := hr.newOb (hn nid (Nat.le_refl _) (by omega)) emptyO
  refine ⟨.map (some w.heap.size), w.alloc emptyO, G', ?_, hr', onE1, by rw [hb]⟩
  simp [execOp, ho, Instr.makeMap, emptyO]
def zbT (P : Program) (t : TypeId) : Bool := match P.info? t with
  | some i => match i.zero with
    | some (.bool false) => true
    | _ => false
  | none => false
/-- May sets of such keys be asked? -/
def setT (P : Program) (t : TypeId) : Option (List Field) :=
  match P.underlying t with
  | some (.map kt et) => match eqT P kt, zbT P et with
    | some fs, true => some fs
    | _, _ => none
  | _ => none
theorem zero_bool {et : TypeId} (hz : zbT P et = true) (w : World) : (zeroValue et).run P w = .ok (.bool false) w := by
  unfold zbT at hz
  split at hz
  · rename_i i hi
    split at hz
    · rename_i h0
      simp [zeroValue, typeInfo, hi, h0]
    · cases hz
  · cases hz
theorem op_lookSet {t : TypeId} {m x : Operand} {id : Nat} {cs : List CV} {ks : List Value} {fs : List Field} {ob : Obj} (ho : o.op = .lookup t m x false) (ht : setT P t = some fs) (hx : valsC cs = some ks) (fx : fitVs P fs ks = true) (hS : SetO P fs ob) :
    OpSem P o [(m, .c (.mp id)), (x, .ag cs)] [(id, .ob ob)] nid (.c (.v (.bool (memO ob ks)))) [] := by
  refine opsem_val fun sl hp On B w0 G a w hrs hT hr => ⟨_, ?_, rfl, rfl⟩
  have h1 := rs1 hrs; have h2 := rs2 hrs
  have e1 := ev_sound hr m; rw [h1] at e1
  have e2 := ev_sound hr x; rw [h2] at e2
  obtain ⟨_, e1⟩ := e1
  have v2 := ag_vals hx e2
  have hg := hT (id, .ob ob) (by simp)
  obtain ⟨_, _, _, hh⟩ := hr.hp id _ hg
  unfold setT at ht
  split at ht
  · rename_i kt et hu
    split at ht
    · rename_i fs' hq hz
      injection ht with ht; subst ht
      have := run_lookup_flat hu hq fx (zero_bool hz w) hh hS
      simp [execOp, ho, e1, v2, this]
    · cases ht
  · cases ht
theorem op_putSet {t : TypeId} {m x y : Operand} {id : Nat} {cs : List CV} {ks : List Value} {fs : List Field} {ob : Obj} (ho : o.op = .mapUpdate t m x y) (ht : setT P t = some fs) (hx : valsC cs = some ks) (fx : fitVs P fs ks = true) (hS : SetO P fs ob) (hm : memO ob ks = false) :
    OpSem P o [(m, .c (.mp id)), (x, .ag cs), (y, .c (.v (.bool true)))] [(id, .ob ob)] nid .no [(id, some (.ob (insO ob ks)))] := by
  refine opsem_skip fun sl hp On B w0 G a w hrs hT hn hr => ?_
  have h1 := rs1 hrs; have h2 := rs2 hrs
  have h3 : ev sl y = .c (.v (.bool true)) := hrs (y, _) (by simp)
  have e1 := ev_sound hr m; rw [h1] at e1
  have e2 := ev_sound hr x; rw [h2] at e2
  have e3 := ev_sound hr y; rw [h3] at e3
  obtain ⟨_, e1⟩ := e1
  have v2 := ag_vals hx e2
  have v3 := vr_v e3
  have hg := hT (id, .ob ob) (by simp)
  obtain ⟨hon, _, _, hh⟩ := hr.hp id _ hg
  unfold setT at ht
  split at ht
  · rename_i kt et hu
    split at ht
    · rename_i fs' hq hz
      injection ht with ht; subst ht
      have := run_update_flat hu hq fx hh hS hm
      refine ⟨_, G, ?_, (hr.setOb hg (insO ob ks)).more fun id h => .inl h⟩
      simp [execOp, ho, e1, v2, v3, this, setWorld, Result.andThen]
    · cases ht
  · cases ht

/-- A set, as a map type has it. -/
def SetM (P : Program) (t : TypeId) (o : Obj) : Prop := ∃ fs, setT P t = some fs ∧ SetO P fs o
def fitM (P : Program) (t : TypeId) (ks : List Value) : Bool := match setT P t with
  | some fs => fitVs P fs ks
  | none => false
theorem SetM.empty {t : TypeId} (h : (setT P t).isSome = true) : SetM P t emptyO := by
  obtain ⟨fs, hf⟩ := Option.isSome_iff_exists.1 h
  exact ⟨fs, hf, setO_empty⟩
theorem SetM.ins {t : TypeId} {ob : Obj} {ks : List Value} (h : SetM P t ob) (hk : fitM P t ks = true) : SetM P t (insO ob ks) := by
  obtain ⟨fs, hf, hs⟩ := h
  unfold fitM at hk; rw [hf] at hk
  exact ⟨fs, hf, setO_ins hs hk⟩
theorem SetM.mem {t : TypeId} {ob : Obj} {ks ms : List Value} (h : SetM P t ob) : memO (insO ob ks) ms = (memO ob ms || eqVs ms ks) := by
  obtain ⟨fs, hf, hs⟩ := h
  exact memO_ins hs

/-! ### Bytes as a string. -/
def rowNums (ls : List (List DV)) : List Int := ls.map fun cs => match cs with
  | [.s (.int _ n)] => n
  | _ => 0
def rowStr (ls : List (List DV)) : ByteArray := strOfNums (rowNums ls)
def allU8 (ls : List (List DV)) : Bool := ls.all fun cs => match cs with
  | [.s (.int .u8 _)] => true
  | _ => false
theorem op_convB {s d : TypeId} {x : Operand} {id n e : Nat} {pn : Bool} {ls : List (List DV)} (ho : o.op = .convert s d x) (hs : P.underlying s = some (.slice e)) (he : P.underlying e = some (.int .u8)) (hd' : P.underlying d = some .string) (hsz : szT P e = 1)
    (hn : n = ls.length) (hall : allU8 ls = true) (hne : ls ≠ []) : OpSem P o [(x, .c (.sl id n))] [(id, .row pn e ls)] nid (.c (.v (.string (rowStr ls)))) [] := by
  refine opsem_val fun sl hp On B w0 G a w hrs hT hr => ⟨_, ?_, rfl, rfl⟩
  have h1 := rs1 hrs
  have e1 := ev_sound hr x; rw [h1] at e1
  obtain ⟨_, e1⟩ := e1
  have hg := hT (id, .row pn e ls) (by simp)
  obtain ⟨_, _, hm, _⟩ := hr.hp id _ hg
  obtain ⟨_, hcase⟩ := hm.inv
  rcases hcase with ⟨hnl, rfl, hcap⟩ | ⟨hnl, arr, vals, F, g1, g2, g3, g4, g5, g6, g7, g8, g9, g10⟩
  · exact absurd rfl hne
  · have key : ∀ i, i < n → w.cell? ⟨(G id).b, 0 + i, none⟩ = some (.int .u8 ((rowNums ls).getD i 0)) := by
      intro i hi
      rw [hn] at hi
      have hi' : ls[i]? = some ls[i] := List.getElem?_eq_getElem hi
      have hu : (match ls[i] with | [.s (.int .u8 _)] => true | _ => false) = true := by
        have := List.all_eq_true.1 hall ls[i] (List.getElem_mem hi)
        exact this
      split at hu
      · rename_i k hk
        have h9 := g9 i _ 0 (.s (.int .u8 k)) (by rw [hi', hk]) rfl
        have h10 := g10 i _ 0 (.s (.int .u8 k)) (by rw [hi', hk]) rfl
        rw [hsz] at h9
        have hv : vals i 0 = .int .u8 k := by
          generalize vals i 0 = vv at h10
          cases h10; rfl
        rw [Nat.zero_add, cell_of_row w _ _ arr e (0, 0) g4]
        have h9' : arr[i]? = some (vals i 0) := by simpa using h9
        rw [h9', hv]
        have : (rowNums ls).getD i 0 = k := by
          simp [rowNums, List.getD_eq_getElem?_getD, hi', hk]
        rw [this]
      · cases hu
    have := run_convert_bytes_arg (P := P) w s e hs he (G id).b 0 n (G id).cap (rowNums ls) (by simp [rowNums, hn]) key d hd'
    rw [hnl] at e1
    simp only [hd, Bool.false_eq_true, if_false] at e1
    simp [execOp, ho, e1, this, rowStr]
end
end Go.Proofs.Ytekdfddodabfcaa
/- The engine, part R: calls, and one operation's condition as a statement that Lean reckons. -/
namespace Go.Proofs.Ytekdfddodabfcaa
open Go.RowKit
set_option linter.unusedVariables false
set_option linter.unusedSimpArgs false

/-- A call, described: what it is given (xs; blocks T), what it hands back (v), what it changes (E). -/
def CallSem (P : Program) (f : Nat) (xs : List AV) (T : List (Nat × AB)) (nid : Nat) (v : AV) (E : List (Nat × Option AB)) : Prop :=
  (∃ fn, P.funcs[f]? = some fn ∧ fn.body.isSome = true ∧ (fn.name == "runtime.NumGoroutine") = false) ∧
  ∀ (sl : List AV) (hp : Hp) (On : Nat → Prop), (∀ x ∈ T, hget hp x.1 = some x.2) → (∀ id, nid ≤ id → id < nid + 8 → ¬ On id) →
  ∀ (B : Fr) (w0 : World) (G : Gh) (a : Act) (w : World), Rel P B w0 G On ⟨sl, hp⟩ a w → ∀ vs : List Value, All2 (Vr P G On w) xs vs →
    Calls P f vs.toArray w fun e w' => ∃ y G', e = .returned y ∧ Rel P B w0 G' (OnE On E) ⟨sl, happly hp E⟩ a w' ∧ Vr P G' (OnE On E) w' v y

/-- The condition of a slice expression. -/
def sliceK (P : Program) (sl : List AV) (hp : Hp) (t : Nat) (x : Operand) (lo hi mx : Option Operand) (K : AV → List (Nat × Option AB) → List Nat → Prop) : Prop :=
  match ev sl x with
  | .c (.v (.string s)) => mx = none ∧ P.underlying t = some .string ∧ ∃ l h, bnd 0 (lo.map (ev sl)) = some l ∧ bnd s.size (hi.map (ev sl)) = some h ∧ 0 ≤ l ∧ l ≤ h ∧ h ≤ s.size ∧ K (.c (.v (.string (s.extract l.toNat h.toNat)))) [] []
  | .c c => ∃ E n l h m d, P.underlying t = some (.slice E) ∧ szT P E ≠ 0 ∧ lenC c = some n ∧ bnd 0 (lo.map (ev sl)) = some l ∧ bnd n (hi.map (ev sl)) = some h ∧ bnd n (mx.map (ev sl)) = some m ∧ (mx.isSome = true → hi.isSome = true) ∧
      0 ≤ l ∧ l ≤ h ∧ h ≤ m ∧ m ≤ n ∧ sliceC l.toNat h.toNat c = some d ∧ sliceOk P hp E c ∧ K (.c d) [] (ids (looks hp c))
  | _ => False
/-- The condition of a call. -/
def callK (P : Program) (sl : List AV) (hp : Hp) (nid : Nat) (c : Call) (K : AV → List (Nat × Option AB) → List Nat → Prop) : Prop :=
  match c.callee, c.args.toList, c.argTypes.toList with
  | .builtin .len, [x], [t] => (match ev sl x with
    | .c (.v (.string s)) => P.underlying t = some .string ∧ K (.c (.v (.int .i64 s.size))) [] []
    | .c c => ∃ E n, P.underlying t = some (.slice E) ∧ lenC c = some n ∧ K (.c (.v (.int .i64 n))) [] []
    | _ => False)
  | .builtin .append, [x, y], [t, t'] => (match ev sl x, ev sl y with
    | .c c, .c d => t' = t ∧ ∃ E by_ ls R, P.underlying t = some (.slice E) ∧ elB P E = some by_ ∧ dstOf hp E c = some (ls, R) ∧
        (match d with
         | .sl id2 n => (match hget hp id2 with
           | some (.row false e2 ns) => e2 = E ∧ n = ns.length ∧ id2 ∉ R ∧ (ls.length + ns.length) * by_ ≤ 140737488355328 ∧ ls.length + ns.length ≤ 140737488355328 ∧
               K (.c (.sl nid (ls ++ ns).length)) (drops (R ++ [id2]) ++ [(nid, some (.row true E (ls ++ ns)))]) (ids (looks hp c ++ [(id2, .row false E ns)]))
           | _ => ∃ ns, srcOf P hp E d = some ns ∧ allS ns = true ∧ (ls.length + ns.length) * by_ ≤ 140737488355328 ∧ ls.length + ns.length ≤ 140737488355328 ∧
               K (.c (.sl nid (ls ++ ns).length)) (drops R ++ [(nid, some (.row true E (ls ++ ns)))]) (ids (looks hp c ++ looks hp d)))
         | _ => ∃ ns, srcOf P hp E d = some ns ∧ allS ns = true ∧ (ls.length + ns.length) * by_ ≤ 140737488355328 ∧ ls.length + ns.length ≤ 140737488355328 ∧
               K (.c (.sl nid (ls ++ ns).length)) (drops R ++ [(nid, some (.row true E (ls ++ ns)))]) (ids (looks hp c ++ looks hp d)))
    | _, _ => False)
  | .builtin .min, xs, _ => ∃ k n ns, intsOf sl k xs = some (n :: ns) ∧ K (.c (.v (.int k (ns.foldl mn2 n)))) [] []
  | .builtin .max, xs, _ => ∃ k n ns, intsOf sl k xs = some (n :: ns) ∧ K (.c (.v (.int k (ns.foldl mx2 n)))) [] []
  | .value (.func f), xs, _ => ∃ T v E, CallSem P f (xs.map (ev sl)) T nid v E ∧ (∀ x ∈ T, hget hp x.1 = some x.2) ∧ K v E (ids T)
  | _, _, _ => False

/-- The condition under which an operation goes through, and what follows. -/
def aop (P : Program) (sl : List AV) (hp : Hp) (nid : Nat) (op : Op) (K : AV → List (Nat × Option AB) → List Nat → Prop) : Prop :=
  match op with
  | .move x => K (ev sl x) [] []
  | .assign x => K (ev sl x) [] []
  | .pick c x y => (match ev sl c with
    | .c (.v (.bool t)) => (t = true → K (ev sl x) [] []) ∧ (t = false → K (ev sl y) [] [])
    | _ => False)
  | .binOp b t x y _ => (match ev sl x, ev sl y with
    | .c (.v u), .c (.v v) => (∃ r, bin b u v = some r ∧ K (.c (.v r)) [] []) ∨ (∃ a c ng : Bool, u = .bool a ∧ v = .bool c ∧ b = (if ng then .neq else .eql) ∧ P.underlying t = some .bool ∧ K (.c (.v (.bool (if ng then !(a == c) else a == c)))) [] [])
    | .ag cs, .ag ds => ∃ fs xs ys, ∃ ng : Bool, b = (if ng then .neq else .eql) ∧ eqT P t = some fs ∧ valsC cs = some xs ∧ valsC ds = some ys ∧ fitVs P fs xs = true ∧ fitVs P fs ys = true ∧ K (.c (.v (.bool (if ng then !eqVs xs ys else eqVs xs ys)))) [] []
    | _, _ => False)
  | .nilCheck x => (match ev sl x with
    | .c c => ∃ c', addC 0 c = some c' ∧ K (.c c) [] []
    | _ => False)
  | .makeMap _ none => K (.c (.mp nid)) [(nid, some (.ob emptyO))] []
  | .lookup t m x false => (match ev sl m, ev sl x with
    | .c (.mp id), .ag cs => (match hget hp id with
      | some (.ob ob) => ∃ fs ks, setT P t = some fs ∧ valsC cs = some ks ∧ fitVs P fs ks = true ∧ SetO P fs ob ∧ K (.c (.v (.bool (memO ob ks)))) [] [id]
      | _ => False)
    | _, _ => False)
  | .mapUpdate t m x y => (match ev sl m, ev sl x, ev sl y with
    | .c (.mp id), .ag cs, .c (.v (.bool true)) => (match hget hp id with
      | some (.ob ob) => ∃ fs ks, setT P t = some fs ∧ valsC cs = some ks ∧ fitVs P fs ks = true ∧ SetO P fs ob ∧ memO ob ks = false ∧ K .no [(id, some (.ob (insO ob ks)))] [id]
      | _ => False)
    | _, _, _ => False)
  | .unOp b _ x => (match ev sl x with
    | .c (.v u) => ∃ r, un b u = some r ∧ K (.c (.v r)) [] []
    | _ => False)
  | .convert s d x => (match ev sl x with
    | .c (.v (.int k n)) => ∃ k', (P.underlying s).isSome = true ∧ P.underlying d = some (.int k') ∧ K (.c (.v (.int k' (k'.wrap n)))) [] []
    | .c (.v (.string b)) => P.underlying s = some .string ∧ P.underlying d = some .string ∧ K (.c (.v (.string b))) [] []
    | .c (.sl id n) => (match hget hp id with
      | some (.row pn e ls) => P.underlying s = some (.slice e) ∧ P.underlying e = some (.int .u8) ∧ P.underlying d = some .string ∧ szT P e = 1 ∧ n = ls.length ∧ allU8 ls = true ∧ ls ≠ [] ∧ K (.c (.v (.string (rowStr ls)))) [] [id]
      | _ => False)
    | _ => False)
  | .alloc t => ∃ zs, zcT P t = some zs ∧ K (.c (.pt nid 0)) [(nid, some (.var t (zs.map .v)))] []
  | .box t x => ∃ cs, cellsOf (ev sl x) = some cs ∧ K (.c (.pt nid 0)) [(nid, some (.var t cs))] []
  | .build t ps => ∃ zs pl ap flat, zcT P t = some zs ∧ placesT P t = some pl ∧ partsOf sl ps.toList = some ap ∧ fillA (fun i : Nat => pl[i]?) (zs.map .v) ap = some flat ∧ K (.ag flat) [] []
  | .buildSlice t len ps => ∃ E zs ap flat ds R, P.underlying t = some (.slice E) ∧ zcT P E = some zs ∧ szT P E = zs.length ∧ zs.length ≠ 0 ∧ len * zs.length ≤ 16777216 ∧ partsOf sl ps.toList = some ap ∧
      fillA (fun i => some (i * zs.length, zs.length)) ((zeros zs len).map .v) ap = some flat ∧ gives hp ((List.replicate len (etsT P E)).flatten) flat = some (ds, R) ∧ R.Nodup ∧
      K (.c (.sl nid (chunk len zs.length ds).length)) (drops R ++ [(nid, some (.row false E (chunk len zs.length ds)))]) (ids (looksAll hp flat))
  | .load t x => (match ev sl x with
    | .c c => ∃ b, aggT P t = some b ∧ (b = false → ∃ d, cellsAt hp c 1 = some [d] ∧ K (.c d) [] (ids (looks hp c))) ∧ (b = true → szT P t ≠ 0 ∧ ∃ ds, cellsAt hp c (szT P t) = some ds ∧ K (.ag ds) [] (ids (looks hp c)))
    | _ => False)
  | .store t x y => (match ev sl x with
    | .c (.pt id off) => (match hget hp id with
      | some (.var t' cs) => ∃ cs', cellsOf (ev sl y) = some cs' ∧ szT P t = cs'.length ∧ cs'.length ≠ 0 ∧ off + cs'.length ≤ cs.length ∧ K .no [(id, some (.var t' (putN cs off cs')))] [id]
      | _ => False)
    | .c (.rp id i off) => (match hget hp id with
      | some (.row pn e ls) => ∃ cs, ls[i]? = some cs ∧
          (match pn, ev sl y with
           | true, .c (.v v) => szT P t = 1 ∧ sca v = true ∧ (∃ u, cs[off]? = some (.s u)) ∧ K .no [(id, some (.row pn e (ls.set i (cs.set off (.s v)))))] [id]
           | _, av => ∃ cs' ds R, cellsOf av = some cs' ∧ szT P t = cs'.length ∧ cs'.length ≠ 0 ∧ gives hp (etsT P t) cs' = some (ds, R) ∧ R.Nodup ∧ id ∉ R ∧ off + ds.length ≤ cs.length ∧
               K .no (drops R ++ [(id, some (.row false e (ls.set i (spl cs off ds))))]) (ids ((id, .row pn e ls) :: looksAll hp cs')))
      | _ => False)
    | _ => False)
  | .fieldAddr s x i => (match ev sl x with
    | .c c => ∃ fs f c', P.underlying s = some (.struct fs) ∧ fs[i]? = some f ∧ szT P f.type ≠ 0 ∧ addC f.offset c = some c' ∧ K (.c c') [] []
    | _ => False)
  | .indexAddr t x y => (match ev sl x, ev sl y with
    | .c c, .c (.v (.int _ i)) => ∃ E d, P.underlying t = some (.slice E) ∧ szT P E ≠ 0 ∧ 0 ≤ i ∧ elemAt P hp E i.toNat c = some d ∧ K (.c d) [] (ids (looks hp c))
    | _, _ => False)
  | .index t x y => (match ev sl x, ev sl y with
    | .c (.v (.string s)), .c (.v (.int _ i)) => P.underlying t = some .string ∧ 0 ≤ i ∧ ∃ h : i.toNat < s.size, K (.c (.v (.int .u8 (s[i.toNat]'h).toNat))) [] []
    | _, _ => False)
  | .slice t x lo hi mx => sliceK P sl hp t x lo hi mx K
  | .makeSlice t x y => (match ev sl x, ev sl y with
    | .c (.v (.int _ l)), .c (.v (.int _ c)) => ∃ E zs zd by_, P.underlying t = some (.slice E) ∧ zcT P E = some zs ∧ szT P E = zs.length ∧ elB P E = some by_ ∧ gives [] (etsT P E) (zs.map .v) = some (zd, []) ∧ 0 ≤ l ∧ l ≤ c ∧ c ≤ 140737488355328 ∧ c * by_ ≤ 281474976710656 ∧
        K (.c (.sl nid (List.replicate l.toNat zd).length)) [(nid, some (.row false E (List.replicate l.toNat zd)))] []
    | _, _ => False)
  | .extract x i => (match ev sl x with
    | .tu xs => ∃ y, xs[i]? = some y ∧ K (tuAt y) [] []
    | _ => False)
  | .call c => callK P sl hp nid c K
  | _ => False

section
variable {P : Program} {sl : List AV} {hp : Hp} {o : Oper} {nid : Nat} {K : AV → List (Nat × Option AB) → List Nat → Prop}

/-- Such a condition gives an operation's description. -/
def Told (P : Program) (sl : List AV) (hp : Hp) (nid : Nat) (o : Oper) (K : AV → List (Nat × Option AB) → List Nat → Prop) : Prop :=
  ∃ rs T v E, OpSem P o rs T nid v E ∧ (∀ x ∈ rs, ev sl x.1 = x.2 ∧ x.1 ∈ o.op.operands) ∧ (∀ x ∈ T, hget hp x.1 = some x.2) ∧ K v E (ids T)

theorem looks_self (c : CV) : ∀ x ∈ looks hp c, hget hp x.1 = some x.2 := by
  intro x hx
  cases c <;> simp only [looks] at hx <;> first | (split at hx <;> simp at hx; subst hx; assumption) | simp at hx
theorem looksAll_self (cs : List CV) : ∀ x ∈ looksAll hp cs, hget hp x.1 = some x.2 := by
  intro x hx
  simp only [looksAll, List.mem_flatMap] at hx
  obtain ⟨c, _, hx⟩ := hx
  exact looks_self c x hx

theorem op_call {f : FuncId} {xs : Array Operand} {ts : Array TypeId} {avs : List AV} {T : List (Nat × AB)} {v : AV} {E : List (Nat × Option AB)} (ho : o.op = .call ⟨.value (.func f), xs, ts⟩) (hc : CallSem P f avs T nid v E) (hav : xs.toList.map (ev sl) = avs) :
    OpSem P o (xs.toList.map fun x => (x, ev sl x)) T nid v E := by
  intro sl' hp' On hrs hT hn B w0 G a w hr K Q hK
  obtain ⟨⟨fn, hfn, hb, hnm⟩, hcall⟩ := hc
  have hvs : All2 (Vr P G On w) avs (xs.toList.map a.eval) := by
    have key : ∀ l : List Operand, (∀ x ∈ l.map (fun x => (x, ev sl x)), ev sl' x.1 = x.2) → All2 (Vr P G On w) (l.map (ev sl)) (l.map a.eval) := by
      intro l
      induction l with
      | nil => intro _; exact .nil
      | cons x l ih =>
        intro h
        have h0 := h (x, ev sl x) (by simp)
        simp only at h0
        have := ev_sound hr x
        rw [h0] at this
        exact .cons this (ih fun y hy => h y (by simp only [List.map_cons, List.mem_cons]; exact .inr hy))
    rw [← hav]; exact key _ hrs
  have h1 := hcall sl' hp' On hT hn B w0 G a w hr _ hvs
  have e1 : (xs.toList.map a.eval).toArray = xs.map a.eval := by apply Array.ext'; simp
  rw [e1] at h1
  unfold Oper.wp
  have hrun : (execOp a.eval o).run P w = .ok (.enter f (xs.map a.eval)) w := by
    have hb' : fn.body.isNone = false := by cases hx : fn.body <;> simp_all
    simp only [execOp, ho, resolve, Act.eval, Deferred.ofValue, invoke, callFunc, Sem.run_bind, Sem.run_pure, Result.andThen_ok, run_program, hfn, hnm, hb', Bool.false_eq_true, if_false]
    simp
  rw [hrun]
  refine h1.mono ?_
  rintro e w' ⟨y, G', rfl, hr', hv⟩
  exact hK G' _ _ (hr'.put o.dst hv)
end
end Go.Proofs.Ytekdfddodabfcaa
/- The engine, part S: an operation's condition is enough. -/
namespace Go.Proofs.Ytekdfddodabfcaa
open Go.RowKit
set_option linter.unusedVariables false
set_option linter.unusedSimpArgs false

section
variable {P : Program} {sl : List AV} {hp : Hp} {o : Oper} {nid : Nat} {K : AV → List (Nat × Option AB) → List Nat → Prop}

theorem told0 {v : AV} {E : List (Nat × Option AB)} {rs : List (Operand × AV)} (h : OpSem P o rs [] nid v E) (hrs : ∀ x ∈ rs, ev sl x.1 = x.2 ∧ x.1 ∈ o.op.operands) (hk : K v E []) : Told P sl hp nid o K :=
  ⟨rs, [], v, E, h, hrs, by simp, hk⟩
theorem told1 {c : CV} {v : AV} {E : List (Nat × Option AB)} {rs : List (Operand × AV)} (h : OpSem P o rs (looks hp c) nid v E) (hrs : ∀ x ∈ rs, ev sl x.1 = x.2 ∧ x.1 ∈ o.op.operands) (hk : K v E (ids (looks hp c))) : Told P sl hp nid o K :=
  ⟨rs, looks hp c, v, E, h, hrs, looks_self c, hk⟩

theorem callK_sound {c : Call} (ho : o.op = .call c) (h : callK P sl hp nid c K) : Told P sl hp nid o K := by
  have hops : ∀ x, x ∈ c.args.toList → x ∈ o.op.operands := by
    intro x hx; rw [ho]; simp only [Op.operands, Call.operands, Array.mem_append]; exact .inr (by simpa using hx)
  obtain ⟨callee, args, ats⟩ := c
  unfold callK at h
  simp only at h
  split at h
  · -- len
    rename_i x t ha ht
    obtain rfl : args = #[x] := by apply Array.ext'; simpa using ha
    obtain rfl : ats = #[t] := by apply Array.ext'; simpa using ht
    split at h
    · rename_i s hs
      exact told0 (op_len_str ho h.1) (by simp only [List.mem_singleton, forall_eq]; exact ⟨hs, hops x (by simp)⟩) h.2
    · rename_i c _ hs
      obtain ⟨E, n, h1, h2, h3⟩ := h
      exact told0 (op_len ho h1 h2) (by simp only [List.mem_singleton, forall_eq]; exact ⟨hs, hops x (by simp)⟩) h3
    · exact h.elim
  · -- append
    rename_i x y t t' ha ht
    obtain rfl : args = #[x, y] := by apply Array.ext'; simpa using ha
    obtain rfl : ats = #[t, t'] := by apply Array.ext'; simpa using ht
    split at h
    · rename_i c d hcx hdy
      obtain ⟨rfl, E, by_, ls, R, h1, h2, h3, h4⟩ := h
      have hrs : ∀ z ∈ [(x, AV.c c), (y, AV.c d)], ev sl z.1 = z.2 ∧ z.1 ∈ o.op.operands := by
        intro z hz
        simp only [List.mem_cons, List.not_mem_nil, or_false] at hz
        rcases hz with rfl | rfl
        · exact ⟨hcx, hops x (by simp)⟩
        · exact ⟨hdy, hops y (by simp)⟩
      have hcopy : (∃ ns, srcOf P hp E d = some ns ∧ allS ns = true ∧ (ls.length + ns.length) * by_ ≤ 140737488355328 ∧ ls.length + ns.length ≤ 140737488355328 ∧
               K (.c (.sl nid (ls ++ ns).length)) (drops R ++ [(nid, some (.row true E (ls ++ ns)))]) (ids (looks hp c ++ looks hp d))) → Told P sl hp nid o K := by
        rintro ⟨ns, q1, q2, q3, q4, q5⟩
        refine ⟨_, _, _, _, op_appendC ho h1 h2 h3 q1 q2 ⟨q3, q4⟩, hrs, ?_, q5⟩
        intro z hz
        rcases List.mem_append.1 hz with hz | hz
        · exact looks_self c z hz
        · exact looks_self d z hz
      split at h4
      · rename_i id2 n
        split at h4
        · rename_i e2 ns hg
          obtain ⟨rfl, rfl, q1, q2, q3, q4⟩ := h4
          refine ⟨_, _, _, _, op_appendM ho h1 h2 h3 hg q1 ⟨q2, q3⟩, hrs, ?_, q4⟩
          intro z hz
          rcases List.mem_append.1 hz with hz | hz
          · exact looks_self c z hz
          · simp at hz; subst hz; exact hg
        · exact hcopy h4
      · exact hcopy h4
    · exact h.elim
  · -- min
    obtain ⟨k, n, ns, h1, h2⟩ := h
    refine told0 (op_min ho h1) ?_ h2
    intro z hz
    simp only [List.mem_map] at hz
    obtain ⟨x, hx, rfl⟩ := hz
    exact ⟨rfl, hops x hx⟩
  · -- max
    obtain ⟨k, n, ns, h1, h2⟩ := h
    refine told0 (op_max ho h1) ?_ h2
    intro z hz
    simp only [List.mem_map] at hz
    obtain ⟨x, hx, rfl⟩ := hz
    exact ⟨rfl, hops x hx⟩
  · -- a call
    obtain ⟨T, v, E, h1, h2, h3⟩ := h
    refine ⟨_, T, v, E, op_call ho h1 rfl, ?_, h2, h3⟩
    intro z hz
    simp only [List.mem_map] at hz
    obtain ⟨x, hx, rfl⟩ := hz
    exact ⟨rfl, hops x hx⟩
  · exact h.elim

theorem in_ops {x : Operand} {op : Op} (ho : o.op = op) (h : x ∈ op.operands) : x ∈ o.op.operands := by rw [ho]; exact h
theorem rs_one {x : Operand} {v : AV} (h1 : ev sl x = v) (h2 : x ∈ o.op.operands) : ∀ z ∈ [(x, v)], ev sl z.1 = z.2 ∧ z.1 ∈ o.op.operands := by
  intro z hz; simp only [List.mem_singleton] at hz; subst hz; exact ⟨h1, h2⟩
theorem rs_two {x y : Operand} {u v : AV} (h1 : ev sl x = u) (h2 : x ∈ o.op.operands) (h3 : ev sl y = v) (h4 : y ∈ o.op.operands) : ∀ z ∈ [(x, u), (y, v)], ev sl z.1 = z.2 ∧ z.1 ∈ o.op.operands := by
  intro z hz; simp only [List.mem_cons, List.not_mem_nil, or_false] at hz; rcases hz with rfl | rfl
  · exact ⟨h1, h2⟩
  · exact ⟨h3, h4⟩
theorem rs_parts {ps : Array (Nat × Operand)} (h : ∀ x : Nat × Operand, x ∈ ps.toList → x.2 ∈ o.op.operands) : ∀ z ∈ partRs sl ps.toList, ev sl z.1 = z.2 ∧ z.1 ∈ o.op.operands := by
  intro z hz
  simp only [partRs, List.mem_map] at hz
  obtain ⟨x, hx, rfl⟩ := hz
  exact ⟨rfl, h x hx⟩

theorem sliceK_sound {t : Nat} {x : Operand} {lo hi mx : Option Operand} (ho : o.op = .slice t x lo hi mx) (h : sliceK P sl hp t x lo hi mx K) : Told P sl hp nid o K := by
  have hx : x ∈ o.op.operands := in_ops ho (by simp [Op.operands])
  have hp1 : ∀ (q : Option Operand), (∀ y, q = some y → y ∈ o.op.operands) → ∀ z ∈ pairs q (q.map (ev sl)), ev sl z.1 = z.2 ∧ z.1 ∈ o.op.operands := by
    intro q hq z hz
    cases q with
    | none => simp [pairs] at hz
    | some y => simp [pairs] at hz; subst hz; exact ⟨rfl, hq y rfl⟩
  have hlo : ∀ y, lo = some y → y ∈ o.op.operands := fun y hy => in_ops ho (by simp [Op.operands, hy])
  have hhi : ∀ y, hi = some y → y ∈ o.op.operands := fun y hy => in_ops ho (by simp [Op.operands, hy])
  have hmx : ∀ y, mx = some y → y ∈ o.op.operands := fun y hy => in_ops ho (by simp [Op.operands, hy])
  unfold sliceK at h
  split at h
  · rename_i s hs
    obtain ⟨rfl, h1, l, hh, h2, h3, h4, h5, h6, h7⟩ := h
    refine told0 (op_sliceS ho h1 h2 h3 h4 h5 h6 (by simp) (by simp)) ?_ h7
    intro z hz
    simp only [List.cons_append, List.mem_cons, List.mem_append] at hz
    rcases hz with rfl | hz | hz
    · exact ⟨hs, hx⟩
    · exact hp1 lo hlo z hz
    · exact hp1 hi hhi z hz
  · rename_i c _ hs
    obtain ⟨E, n, l, hh, m, d, h1, h2, h3, h4, h5, h6, h7, h8, h9, h10, h11, h12, h13, h14⟩ := h
    refine told1 (op_sliceC ho h1 h2 h3 h4 h5 h6 (by simpa using h7) h8 h9 h10 h11 h12 h13 (by simp) (by simp) (by simp)) ?_ h14
    intro z hz
    simp only [List.cons_append, List.mem_cons, List.mem_append] at hz
    rcases hz with rfl | (hz | hz) | hz
    · exact ⟨hs, hx⟩
    · exact hp1 lo hlo z hz
    · exact hp1 hi hhi z hz
    · exact hp1 mx hmx z hz
  · exact h.elim

set_option maxHeartbeats 1000000 in
theorem aop_sound (h : aop P sl hp nid o.op K) : Told P sl hp nid o K := by
  generalize ho : o.op = op at h
  unfold aop at h
  split at h
  · exact told0 (op_move (.inl ho)) (rs_one rfl (in_ops ho (by simp [Op.operands]))) h
  · exact told0 (op_move (.inr ho)) (rs_one rfl (in_ops ho (by simp [Op.operands]))) h
  · rename_i c x y
    split at h
    · rename_i t ht
      cases t with
      | true => exact told0 (op_pick (t := true) ho) (rs_two ht (in_ops ho (by simp [Op.operands])) rfl (in_ops ho (by simp [Op.operands]))) (h.1 rfl)
      | false => exact told0 (op_pick (t := false) ho) (rs_two ht (in_ops ho (by simp [Op.operands])) rfl (in_ops ho (by simp [Op.operands]))) (h.2 rfl)
    · exact h.elim
  · rename_i b t x y t'
    split at h
    · rename_i u v hu hv
      rcases h with ⟨r, h1, h2⟩ | ⟨a, c, ng, rfl, rfl, hb, h1, h2⟩
      · exact told0 (op_bin ho h1) (rs_two hu (in_ops ho (by simp [Op.operands])) hv (in_ops ho (by simp [Op.operands]))) h2
      · subst hb
        exact told0 (op_eqBo (ng := ng) ho h1) (rs_two hu (in_ops ho (by simp [Op.operands])) hv (in_ops ho (by simp [Op.operands]))) h2
    · rename_i cs ds hu hv
      obtain ⟨fs, xs, ys, ng, hb, h1, h2, h3, h4, h5, h6⟩ := h
      subst hb
      exact told0 (op_eqAg (ng := ng) ho h1 h2 h3 h4 h5) (rs_two hu (in_ops ho (by simp [Op.operands])) hv (in_ops ho (by simp [Op.operands]))) h6
    · exact h.elim
  · rename_i x
    split at h
    · rename_i c hx
      obtain ⟨c', h1, h2⟩ := h
      exact told0 (op_nilC ho h1) (rs_one hx (in_ops ho (by simp [Op.operands]))) h2
    · exact h.elim
  · exact told0 (op_makeMap ho) (by simp) h
  · rename_i t m x
    split at h
    · rename_i id cs hm hx
      split at h
      · rename_i ob hg
        obtain ⟨fs, ks, h1, h2, h3, h4, h5⟩ := h
        refine ⟨_, _, _, _, op_lookSet ho h1 h2 h3 h4, rs_two hm (in_ops ho (by simp [Op.operands])) hx (in_ops ho (by simp [Op.operands])), ?_, h5⟩
        intro z hz; simp only [List.mem_singleton] at hz; subst hz; exact hg
      · exact h.elim
    · exact h.elim
  · rename_i t m x y
    split at h
    · rename_i id cs hm hx hy
      split at h
      · rename_i ob hg
        obtain ⟨fs, ks, h1, h2, h3, h4, h5, h6⟩ := h
        refine ⟨_, _, _, _, op_putSet ho h1 h2 h3 h4 h5, ?_, ?_, h6⟩
        · intro z hz
          simp only [List.mem_cons, List.not_mem_nil, or_false] at hz
          rcases hz with rfl | rfl | rfl
          · exact ⟨hm, in_ops ho (by simp [Op.operands])⟩
          · exact ⟨hx, in_ops ho (by simp [Op.operands])⟩
          · exact ⟨hy, in_ops ho (by simp [Op.operands])⟩
        · intro z hz; simp only [List.mem_singleton] at hz; subst hz; exact hg
      · exact h.elim
    · exact h.elim
  · rename_i b t x
    split at h
    · rename_i u hu
      obtain ⟨r, h1, h2⟩ := h
      exact told0 (op_un ho h1) (rs_one hu (in_ops ho (by simp [Op.operands]))) h2
    · exact h.elim
  · rename_i s d x
    split at h
    · rename_i k n hx
      obtain ⟨k', h1, h2, h3⟩ := h
      exact told0 (op_conv_int ho h1 h2) (rs_one hx (in_ops ho (by simp [Op.operands]))) h3
    · rename_i b hx
      obtain ⟨h1, h2, h3⟩ := h
      exact told0 (op_conv_str ho h1 h2) (rs_one hx (in_ops ho (by simp [Op.operands]))) h3
    · rename_i id n hx
      split at h
      · rename_i pn e ls hg
        obtain ⟨h1, h2, h3, h4, h5, h6, h7, h8⟩ := h
        refine ⟨_, _, _, _, op_convB (pn := pn) ho h1 h2 h3 h4 h5 h6 h7, rs_one hx (in_ops ho (by simp [Op.operands])), ?_, h8⟩
        intro z hz; simp only [List.mem_singleton] at hz; subst hz; exact hg
      · exact h.elim
    · exact h.elim
  · obtain ⟨zs, h1, h2⟩ := h
    exact told0 (op_alloc ho h1) (by simp) h2
  · rename_i t x
    obtain ⟨cs, h1, h2⟩ := h
    cases hx : ev sl x with
    | c c =>
      rw [hx] at h1; simp only [cellsOf, Option.some.injEq] at h1; subst h1
      exact told0 (op_box ho) (rs_one hx (in_ops ho (by simp [Op.operands]))) h2
    | ag cs' =>
      rw [hx] at h1; simp only [cellsOf, Option.some.injEq] at h1; subst h1
      exact told0 (op_boxN ho) (rs_one hx (in_ops ho (by simp [Op.operands]))) h2
    | tu _ => rw [hx] at h1; cases h1
    | no => rw [hx] at h1; cases h1
  · rename_i t ps
    obtain ⟨zs, pl, ap, flat, h1, h2, h3, h4, h5⟩ := h
    exact told0 (op_build ho h1 h2 h3 h4) (rs_parts fun x hx => in_ops ho (by simp only [Op.operands, List.mem_toArray, List.mem_map]; exact ⟨x, hx, rfl⟩)) h5
  · rename_i t len ps
    obtain ⟨E, zs, ap, flat, ds, R, h1, h2, h3, h4, h5, h6, h7, h8, h9, h10⟩ := h
    exact ⟨_, _, _, _, op_buildSlice ho h1 h2 h3 h4 h5 h6 h7 h8 h9, rs_parts fun x hx => in_ops ho (by simp only [Op.operands, List.mem_toArray, List.mem_map]; exact ⟨x, hx, rfl⟩), looksAll_self flat, h10⟩
  · rename_i t x
    split at h
    · rename_i c hx
      obtain ⟨b, h1, h2, h3⟩ := h
      cases b with
      | false =>
        obtain ⟨d, h4, h5⟩ := h2 rfl
        exact told1 (op_load1 ho h1 h4) (rs_one hx (in_ops ho (by simp [Op.operands]))) h5
      | true =>
        obtain ⟨h0, ds, h4, h5⟩ := h3 rfl
        exact told1 (op_loadN ho h1 rfl h0 h4) (rs_one hx (in_ops ho (by simp [Op.operands]))) h5
    · exact h.elim
  · rename_i t x y
    have hxo : x ∈ o.op.operands := in_ops ho (by simp [Op.operands])
    have hyo : y ∈ o.op.operands := in_ops ho (by simp [Op.operands])
    split at h
    · rename_i id off hx
      split at h
      · rename_i t' cs hg
        obtain ⟨cs', h1, h2, h3, h4, h5⟩ := h
        refine ⟨_, _, _, _, op_storeV ho h1 h2 h3 h4, rs_two hx hxo rfl hyo, ?_, h5⟩
        intro z hz; simp only [List.mem_singleton] at hz; subst hz; exact hg
      · exact h.elim
    · rename_i id i off hx
      split at h
      · rename_i pn e ls hg
        obtain ⟨cs, h1, h2⟩ := h
        have hgen : (∃ cs' ds R, cellsOf (ev sl y) = some cs' ∧ szT P t = cs'.length ∧ cs'.length ≠ 0 ∧ gives hp (etsT P t) cs' = some (ds, R) ∧ R.Nodup ∧ id ∉ R ∧ off + ds.length ≤ cs.length ∧
               K .no (drops R ++ [(id, some (.row false e (ls.set i (spl cs off ds))))]) (ids ((id, .row pn e ls) :: looksAll hp cs'))) → Told P sl hp nid o K := by
          rintro ⟨cs', ds, R, q1, q2, q3, q4, q5, q6, q7, q8⟩
          refine ⟨_, _, _, _, op_storeR ho hg h1 q1 q2 q3 q4 q5 q6 q7, rs_two hx hxo rfl hyo, ?_, q8⟩
          intro z hz
          simp only [List.mem_cons] at hz
          rcases hz with rfl | hz
          · exact hg
          · exact looksAll_self cs' z hz
        split at h2
        · rename_i v hv
          obtain ⟨q1, q2, ⟨u, q3⟩, q4⟩ := h2
          refine ⟨_, _, _, _, op_storeR1 ho h1 q3 q2 q1, rs_two hx hxo hv hyo, ?_, q4⟩
          intro z hz; simp only [List.mem_singleton] at hz; subst hz; exact hg
        · exact hgen h2
      · exact h.elim
    · exact h.elim
  · rename_i s x i
    split at h
    · rename_i c hx
      obtain ⟨fs, f, c', h1, h2, h3, h4, h5⟩ := h
      exact told0 (op_fieldAddr ho h1 h2 h3 h4) (rs_one hx (in_ops ho (by simp [Op.operands]))) h5
    · exact h.elim
  · rename_i t x y
    split at h
    · rename_i c k i hx hy
      obtain ⟨E, d, h1, h2, h3, h4, h5⟩ := h
      exact told1 (op_indexAddr ho h1 h2 h3 h4) (rs_two hx (in_ops ho (by simp [Op.operands])) hy (in_ops ho (by simp [Op.operands]))) h5
    · exact h.elim
  · rename_i t x y
    split at h
    · rename_i s k i hx hy
      obtain ⟨h1, h2, h3, h4⟩ := h
      exact told0 (op_index_str ho h1 h2 h3) (rs_two hx (in_ops ho (by simp [Op.operands])) hy (in_ops ho (by simp [Op.operands]))) h4
    · exact h.elim
  · exact sliceK_sound ho h
  · rename_i t x y
    split at h
    · rename_i kl l kc c hx hy
      obtain ⟨E, zs, zd, by_, h1, h2, h3, h4, h5, h6, h7, h8, h9, h10⟩ := h
      exact told0 (op_makeSlice ho h1 h2 h3 h4 h5 h6 h7 h8 h9) (rs_two hx (in_ops ho (by simp [Op.operands])) hy (in_ops ho (by simp [Op.operands]))) h10
    · exact h.elim
  · rename_i x i
    split at h
    · rename_i xs hx
      obtain ⟨y, h1, h2⟩ := h
      exact told0 (op_extract ho h1) (rs_one hx (in_ops ho (by simp [Op.operands]))) h2
    · exact h.elim
  · exact callK_sound ho h
  · exact h.elim
end
end Go.Proofs.Ytekdfddodabfcaa
/- The engine, part T: a statement's operations, one behind the other. -/
namespace Go.Proofs.Ytekdfddodabfcaa
open Go.RowKit
set_option linter.unusedVariables false
set_option linter.unusedSimpArgs false

/-- A slot that a skipped operation has left. -/
abbrev unA : AV := .tu []
/-- Whether an operation with this guard runs. -/
def guardA (ops : Array Oper) (sl : List AV) (j : Nat) (want : Bool) : Option Bool :=
  match (ops[j]?).bind (·.dst) with
  | some d => match want, sl.getD d .no with
    | true, .c (.v (.bool b)) => some b
    | false, .c (.v (.bool b)) => some (!b)
    | _, .tu [] => some false
    | _, _ => none
  | none => none

def AOps (P : Program) (ops : Array Oper) : List Oper → List AV → Hp → (List AV → Hp → Prop) → Prop
  | [], sl, hp, K => K sl hp
  | o :: rest, sl, hp, K =>
    match o.guard with
    | none => aop P sl hp hp.length o.op fun v E _ => AOps P ops rest (putA sl o.dst v) (happly hp E) K
    | some (j, want) => ∃ t, guardA ops sl j want = some t ∧ (t = true → aop P sl hp hp.length o.op fun v E _ => AOps P ops rest (putA sl o.dst v) (happly hp E) K) ∧ (t = false → AOps P ops rest (putA sl o.dst unA) hp K)

section
variable {P : Program} {G G' : Gh} {On On' : Nat → Prop} {w w' : World} {B : Fr} {w0 : World} {sl : List AV} {hp hp' : Hp} {a : Act} {ops : Array Oper}

/-- A described state, all numbers below the heap's length given out. -/
abbrev SRel (P : Program) (B : Fr) (w0 : World) (G : Gh) (σ : St) (a : Act) (w : World) : Prop := Rel P B w0 G (fun id => id < σ.hp.length) σ a w

theorem slot_val (h : All2 (Vr P G On w) sl a.tmps.toList) {d : Nat} {x : Value} (hx : sl.getD d .no = .c (.v x)) : a.tmps[d]? = some x := by
  have hlt : d < sl.length := by
    rcases Nat.lt_or_ge d sl.length with h | h
    · exact h
    · simp [List.getD, List.getElem?_eq_none h] at hx
  obtain ⟨v, hv, hr⟩ := h.get d sl[d] (List.getElem?_eq_getElem hlt)
  have e1 : sl.getD d .no = sl[d] := by simp [List.getD, hlt]
  rw [e1] at hx; rw [hx] at hr
  rw [Array.getElem?_toList] at hv
  rw [hv, vr_v hr]
theorem slot_un (h : All2 (Vr P G On w) sl a.tmps.toList) {d : Nat} (hx : sl.getD d .no = unA) : a.tmps[d]? = some undef := by
  have hlt : d < sl.length := by
    rcases Nat.lt_or_ge d sl.length with h | h
    · exact h
    · simp [List.getD, List.getElem?_eq_none h] at hx
  obtain ⟨v, hv, hr⟩ := h.get d sl[d] (List.getElem?_eq_getElem hlt)
  have e1 : sl.getD d .no = sl[d] := by simp [List.getD, hlt]
  rw [e1] at hx; rw [hx] at hr
  rw [Array.getElem?_toList] at hv
  obtain ⟨vs, rfl, hn⟩ := hr
  rw [hv]
  have : vs = #[] := by
    apply Array.ext'
    generalize vs.toList = l at hn
    cases hn; rfl
  rw [this]; rfl
theorem guard_sound (h : Rel P B w0 G On ⟨sl, hp⟩ a w) {j : Nat} {want t : Bool} (hg : guardA ops sl j want = some t) : (yielded ops a.tmps j == some want) = t := by
  unfold guardA at hg
  split at hg
  · rename_i d hd
    split at hg
    · rename_i b hb
      injection hg with hg; subst hg
      have := slot_val h.sl hb
      simp [yielded, hd, this]
    · rename_i b hb
      injection hg with hg; subst hg
      have := slot_val h.sl hb
      cases b <;> simp [yielded, hd, this]
    · rename_i hb
      injection hg with hg; subst hg
      have := slot_un h.sl hb
      simp [yielded, hd, this, undef]
    · cases hg
  · cases hg

theorem hput_len (hp : Hp) (i : Nat) (x : Option AB) : hp.length ≤ (hput hp i x).length ∧ i < (hput hp i x).length := by
  induction i generalizing hp with
  | zero => cases hp <;> simp [hput]
  | succ i ih => cases hp with
    | nil => simp only [hput, List.length_cons, List.length_nil]; have := ih []; omega
    | cons y l => simp only [hput, List.length_cons]; have := ih l; omega
theorem happly_len (hp : Hp) (E : List (Nat × Option AB)) : hp.length ≤ (happly hp E).length ∧ ∀ id, id ∈ E.map Prod.fst → id < (happly hp E).length := by
  induction E generalizing hp with
  | nil => simp
  | cons x E ih =>
    have h1 := hput_len hp x.1 x.2
    have h2 := ih (hput hp x.1 x.2)
    simp only [happly_cons]
    refine ⟨by omega, fun id hid => ?_⟩
    simp only [List.map_cons, List.mem_cons] at hid
    rcases hid with rfl | hid
    · omega
    · exact h2.2 id hid
theorem onE_len {hp : Hp} {E : List (Nat × Option AB)} : ∀ id, OnE (fun id => id < hp.length) E id → id < (happly hp E).length := by
  intro id h
  have := happly_len hp E
  rcases h with h | h
  · omega
  · exact this.2 id h

theorem aops_sound {Q : Exit → Act → World → Prop} {K : List AV → Hp → Prop} (hQ : ∀ G sl hp a w, K sl hp → SRel P B w0 G ⟨sl, hp⟩ a w → Q .normal a w) : ∀ (l : List Oper) (sl : List AV) (hp : Hp) (G : Gh) (a : Act) (w : World),
    SRel P B w0 G ⟨sl, hp⟩ a w → AOps P ops l sl hp K → wpList P ops Q l a w := by
  intro l
  induction l with
  | nil => intro sl hp G a w hr h; exact hQ G sl hp a w h hr
  | cons o rest ih =>
    intro sl hp G a w hr h
    have hdo : aop P sl hp hp.length o.op (fun v E _ => AOps P ops rest (putA sl o.dst v) (happly hp E) K) → o.wp P a w (wpList P ops Q rest) Q := by
      intro h
      obtain ⟨rs, T, v, E, hs, h1, h2, h3⟩ := aop_sound h
      refine hs sl hp _ (fun x hx => (h1 x hx).1) h2 (fun id h4 h5 => by simp only [Nat.not_lt]; exact h4) B w0 G a w hr _ Q fun G' a' w' hr' => ?_
      exact ih _ _ G' a' w' (hr'.more onE_len) h3
    unfold AOps at h
    unfold wpList
    cases hg : o.guard with
    | none =>
      rw [hg] at h
      rw [if_pos (by simp [Region.wanted, hg])]
      exact .inl (hdo h)
    | some jw =>
      obtain ⟨j, want⟩ := jw
      rw [hg] at h
      obtain ⟨t, h1, h2, h3⟩ := h
      have hy := guard_sound hr h1
      cases t with
      | true =>
        rw [if_pos (by simpa [Region.wanted, hg] using hy)]
        exact .inl (hdo (h2 rfl))
      | false =>
        rw [if_neg (by simpa [Region.wanted, hg] using hy)]
        exact ih _ _ G _ _ (hr.put o.dst (x := unA) (v := undef) ⟨#[], rfl, .nil⟩) (h3 rfl)
end
end Go.Proofs.Ytekdfddodabfcaa
/- The engine, part U: statements that draw their order. -/
namespace Go.Proofs.Ytekdfddodabfcaa
open Go.RowKit
set_option linter.unusedVariables false
set_option linter.unusedSimpArgs false

/-- As AOps; what each operation looks at and changes is kept. -/
def ADraw (P : Program) (ops : Array Oper) (base : Nat) (K : List AV → Hp → List (List Nat × List Nat) → Prop) : Nat → List Oper → List AV → Hp → List (List Nat × List Nat) → Prop
  | _, [], sl, hp, acc => K sl hp acc
  | i, o :: rest, sl, hp, acc =>
    match o.guard with
    | none => aop P sl hp (base + 8 * i) o.op fun v E T => ADraw P ops base K (i + 1) rest (putA sl o.dst v) (happly hp E) (acc ++ [(T, E.map Prod.fst)])
    | some (j, want) => ∃ t, guardA ops sl j want = some t ∧ (t = true → aop P sl hp (base + 8 * i) o.op fun v E T => ADraw P ops base K (i + 1) rest (putA sl o.dst v) (happly hp E) (acc ++ [(T, E.map Prod.fst)])) ∧
        (t = false → ADraw P ops base K (i + 1) rest (putA sl o.dst unA) hp (acc ++ [([], [])]))

/-- What an operation came to. -/
structure Rc where
  on : Bool
  rs : List (Operand × AV)
  T : List (Nat × AB)
  v : AV
  E : List (Nat × Option AB)

/-- One operation, described at a state, with its guard. -/
def RcOk (P : Program) (ops : Array Oper) (nid : Nat) (o : Oper) (sl : List AV) (hp : Hp) (r : Rc) : Prop :=
  (match o.guard with
   | none => r.on = true
   | some (j, want) => guardA ops sl j want = some r.on) ∧
  (r.on = true → OpSem P o r.rs r.T nid r.v r.E ∧ (∀ x ∈ r.rs, ev sl x.1 = x.2 ∧ x.1 ∈ o.op.operands) ∧ ∀ x ∈ r.T, hget hp x.1 = some x.2) ∧
  (r.on = false → r.v = unA ∧ r.E = [] ∧ r.T = [])

def Chain (P : Program) (ops : Array Oper) (base : Nat) : Nat → List Oper → List Rc → List AV → Hp → List AV → Hp → Prop
  | _, [], rc, sl, hp, sl', hp' => rc = [] ∧ sl = sl' ∧ hp = hp'
  | i, o :: rest, rc, sl, hp, sl', hp' => ∃ r rc', rc = r :: rc' ∧ RcOk P ops (base + 8 * i) o sl hp r ∧ Chain P ops base (i + 1) rest rc' (putA sl o.dst r.v) (happly hp r.E) sl' hp'

theorem adraw_chain {P : Program} {ops : Array Oper} {base : Nat} {K : List AV → Hp → List (List Nat × List Nat) → Prop} : ∀ (l : List Oper) (i : Nat) (sl : List AV) (hp : Hp) (acc : List (List Nat × List Nat)), ADraw P ops base K i l sl hp acc →
    ∃ rc sl' hp', Chain P ops base i l rc sl hp sl' hp' ∧ K sl' hp' (acc ++ rc.map fun r => (ids r.T, r.E.map Prod.fst)) := by
  intro l
  induction l with
  | nil => intro i sl hp acc h; exact ⟨[], sl, hp, ⟨rfl, rfl, rfl⟩, by simpa [ADraw] using h⟩
  | cons o rest ih =>
    intro i sl hp acc h
    have hdo : aop P sl hp (base + 8 * i) o.op (fun v E T => ADraw P ops base K (i + 1) rest (putA sl o.dst v) (happly hp E) (acc ++ [(T, E.map Prod.fst)])) →
        (match o.guard with | none => True | some (j, want) => guardA ops sl j want = some true) →
        ∃ rc sl' hp', Chain P ops base i (o :: rest) rc sl hp sl' hp' ∧ K sl' hp' (acc ++ rc.map fun r => (ids r.T, r.E.map Prod.fst)) := by
      intro h hgd
      obtain ⟨rs, T, v, E, hs, h1, h2, h3⟩ := aop_sound h
      obtain ⟨rc, sl', hp', hc, hk⟩ := ih _ _ _ _ h3
      refine ⟨⟨true, rs, T, v, E⟩ :: rc, sl', hp', ⟨_, rc, rfl, ⟨?_, fun _ => ⟨hs, h1, h2⟩, fun h => by cases h⟩, hc⟩, by simpa using hk⟩
      cases hg : o.guard with
      | none => rfl
      | some jw => rw [hg] at hgd; simpa using hgd
    unfold ADraw at h
    cases hg : o.guard with
    | none => rw [hg] at h; exact hdo h (by rw [hg]; trivial)
    | some jw =>
      obtain ⟨j, want⟩ := jw
      rw [hg] at h
      obtain ⟨t, h1, h2, h3⟩ := h
      cases t with
      | true => exact hdo (h2 rfl) (by rw [hg]; exact h1)
      | false =>
        obtain ⟨rc, sl', hp', hc, hk⟩ := ih _ _ _ _ (h3 rfl)
        refine ⟨⟨false, [], [], unA, []⟩ :: rc, sl', hp', ⟨_, rc, rfl, ⟨?_, fun h => (by cases h), fun _ => ⟨rfl, rfl, rfl⟩⟩, by simpa using hc⟩, by simpa [ids] using hk⟩
        rw [hg]; exact h1

/-- The state when the operations in D are done. -/
def foldS (D : Nat → Bool) : Nat → List (Option Nat × AV) → List AV → List AV
  | _, [], sl => sl
  | i, (d, v) :: r, sl => foldS D (i + 1) r (if D i then putA sl d v else sl)
def foldH (D : Nat → Bool) : Nat → List (List (Nat × Option AB)) → Hp → Hp
  | _, [], hp => hp
  | i, E :: r, hp => foldH D (i + 1) r (if D i then happly hp E else hp)

theorem putA_len (sl : List AV) (d : Option Nat) (v : AV) : (putA sl d v).length = sl.length := by cases d <;> simp [putA]
theorem foldS_len (D : Nat → Bool) : ∀ (l : List (Option Nat × AV)) (i : Nat) (sl : List AV), (foldS D i l sl).length = sl.length := by
  intro l
  induction l with
  | nil => intro i sl; rfl
  | cons x l ih => intro i sl; obtain ⟨d, v⟩ := x; simp only [foldS]; rw [ih]; split <;> simp [putA_len]
theorem putA_getD (sl : List AV) (d : Option Nat) (v : AV) (t : Nat) : (putA sl d v).getD t .no = if d = some t ∧ t < sl.length then v else sl.getD t .no := by
  cases d with
  | none => simp [putA]
  | some d =>
    simp only [putA, List.getD, List.getElem?_set, Option.some.injEq]
    by_cases h1 : d = t
    · subst h1
      by_cases h2 : d < sl.length <;> simp [h2]
    · simp [h1]
/-- Two such states agree on a slot, if they agree on who writes it. -/
theorem foldS_agree {D D' : Nat → Bool} {t : Nat} : ∀ (l : List (Option Nat × AV)) (i : Nat) (sl sl' : List AV), sl.length = sl'.length → sl.getD t .no = sl'.getD t .no → (∀ (k : Nat) v, l[k]? = some (some t, v) → D (i + k) = D' (i + k)) →
    (foldS D i l sl).getD t .no = (foldS D' i l sl').getD t .no := by
  intro l
  induction l with
  | nil => intro i sl sl' _ h _; exact h
  | cons x l ih =>
    intro i sl sl' hl h hD
    obtain ⟨d, v⟩ := x
    simp only [foldS]
    refine ih (i + 1) _ _ ?_ ?_ fun k v hk => by have := hD (k + 1) v (by simpa using hk); rwa [show i + (k + 1) = i + 1 + k by omega] at this
    · split <;> split <;> simp [putA_len, hl]
    · by_cases hd : d = some t
      · subst hd
        have := hD 0 v rfl
        simp only [Nat.add_zero] at this
        rw [this]
        split
        · rw [putA_getD, putA_getD, h, hl]
        · exact h
      · have e1 : ∀ s : List AV, (putA s d v).getD t .no = s.getD t .no := fun s => by rw [putA_getD, if_neg (fun hh => hd hh.1)]
        split <;> split <;> simp only [e1, h]
theorem happly_other {E : List (Nat × Option AB)} {id : Nat} (h : id ∉ E.map Prod.fst) (hp : Hp) : hget (happly hp E) id = hget hp id := by
  induction E generalizing hp with
  | nil => rfl
  | cons x E ih =>
    simp only [List.map_cons, List.mem_cons, not_or] at h
    simp only [happly_cons]
    rw [ih h.2, hget_hput_ne _ _ h.1]
theorem happly_same {E : List (Nat × Option AB)} {id : Nat} {hp hp' : Hp} (h : hget hp id = hget hp' id) : hget (happly hp E) id = hget (happly hp' E) id := by
  induction E generalizing hp hp' with
  | nil => exact h
  | cons x E ih => simp only [happly_cons]; refine ih ?_; rw [hget_hput, hget_hput]; split <;> first | rfl | exact h
theorem foldH_agree {D D' : Nat → Bool} {id : Nat} : ∀ (l : List (List (Nat × Option AB))) (i : Nat) (hp hp' : Hp), hget hp id = hget hp' id → (∀ (k : Nat) E, l[k]? = some E → id ∈ E.map Prod.fst → D (i + k) = D' (i + k)) →
    hget (foldH D i l hp) id = hget (foldH D' i l hp') id := by
  intro l
  induction l with
  | nil => intro i hp hp' h _; exact h
  | cons E l ih =>
    intro i hp hp' h hD
    simp only [foldH]
    refine ih (i + 1) _ _ ?_ fun k E' hk hid => by have := hD (k + 1) E' (by simpa using hk) hid; rwa [show i + (k + 1) = i + 1 + k by omega] at this
    by_cases hid : id ∈ E.map Prod.fst
    · have := hD 0 E rfl hid
      simp only [Nat.add_zero] at this
      rw [this]
      split
      · exact happly_same h
      · exact h
    · split <;> split <;> simp only [happly_other hid, h]
end Go.Proofs.Ytekdfddodabfcaa
