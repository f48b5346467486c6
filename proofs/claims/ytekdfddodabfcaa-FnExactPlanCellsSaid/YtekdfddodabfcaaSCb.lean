/- Contracts: legs. -/
import Derived.Test.YtekdfddodabfcaaSCa
namespace Go.Proofs.Ytekdfddodabfcaa
open Go.RowKit
set_option linter.unusedVariables false
set_option linter.unusedSectionVars false
set_option linter.unusedSimpArgs false
/-- Cells from one to another, from the lesser end. -/
def cellI (x y : Int) : List DV := [.s (.int .i64 x), .s (.int .i64 y)]
def wayN (ax ay bx b' : Int) : Int := max ((ax - bx).natAbs : Int) ((ay - b').natAbs : Int)
def wayC (ax ay bx b' : Int) (k : Int) : List DV := cellI (ax + (2 * k * (bx - ax) + wayN ax ay bx b') / (2 * wayN ax ay bx b')) (ay + (2 * k * (b' - ay) + wayN ax ay bx b') / (2 * wayN ax ay bx b'))
def wayT (ax ay bx b' : Int) (m : Nat) : List (List DV) := (List.range m).map fun k : Nat => wayC ax ay bx b' k
def way (ax ay bx b' : Int) : List (List DV) := wayT ax ay bx b' ((wayN ax ay bx b').toNat + 1)
def Turned (ax ay bx b' : Int) : Prop := bx < ax ∨ (bx = ax ∧ b' < ay)
instance (ax ay bx b' : Int) : Decidable (Turned ax ay bx b') := by unfold Turned; exact inferInstance
def legR (ax ay bx b' : Int) : List (List DV) := if Turned ax ay bx b' then (way bx b' ax ay).reverse else way ax ay bx b'
structure In15 (ax ay bx b' : Int) : Prop where
  a1 : 0 ≤ ax ∧ ax ≤ 15
  a2 : 0 ≤ ay ∧ ay ≤ 15
  b1 : 0 ≤ bx ∧ bx ≤ 15
  b2 : 0 ≤ b' ∧ b' ≤ 15
theorem wayT_succ (ax ay bx b' : Int) (m : Nat) : wayT ax ay bx b' (m + 1) = wayT ax ay bx b' m ++ [wayC ax ay bx b' m] := by
  simp [wayT, List.range_succ]
theorem wayT_len (ax ay bx b' : Int) (m : Nat) : (wayT ax ay bx b' m).length = m := by simp [wayT]
theorem wayT_one (ax ay bx b' : Int) : wayT ax ay bx b' 1 = [cellI ax ay] := by
  have hn : 0 ≤ wayN ax ay bx b' := by unfold wayN; omega
  have h0 : wayN ax ay bx b' / (2 * wayN ax ay bx b') = 0 := by
    rcases Int.lt_or_eq_of_le hn with h | h
    · exact Int.ediv_eq_zero_of_lt hn (by omega)
    · rw [← h]; rfl
  simp [wayT, wayC, h0]
theorem way_shp (ax ay bx b' : Int) (m : Nat) : Shp Try.prog 58 (wayT ax ay bx b' m) := by
  intro cs hc
  obtain ⟨k, _, rfl⟩ := List.mem_map.1 hc
  kernel_rfl
theorem legR_shp (ax ay bx b' : Int) : Shp Try.prog 58 (legR ax ay bx b') := by
  unfold legR
  split
  · intro cs hc; exact way_shp _ _ _ _ _ cs (List.mem_reverse.1 hc)
  · exact way_shp _ _ _ _ _
theorem legR_len (ax ay bx b' : Int) : (legR ax ay bx b').length = (wayN ax ay bx b').toNat + 1 := by
  unfold legR way
  split
  · rw [List.length_reverse, wayT_len]
    have : wayN bx b' ax ay = wayN ax ay bx b' := by unfold wayN; omega
    rw [this]
  · rw [wayT_len]
noncomputable def c_atp (ks ps : List (List DV)) (s : ByteArray) : FC := mkC Try.prog Try.f31 [0, 1, 2, 4, 5] [0, 1, 2, 4, 5] [] [e_l1P] 0 [] (.ag [.v (.int .i64 (ptX ps s)), .v (.int .i64 (ptY ps s))])
theorem atp_of (ks ps : List (List DV)) (s : ByteArray) (h : (c_atp ks ps s).At [] ⟨mkS 18 [(0, .ag [.ro 50 ks, .ro 53 ps]), (1, sv s)], []⟩) : FunSem Try.prog 31 [] [.ag [.ro 50 ks, .ro 53 ps], sv s] [] (.ag [.v (.int .i64 (ptX ps s)), .v (.int .i64 (ptY ps s))]) :=
  FC.sem (C := c_atp ks ps s) (m := 16) Try.func31 (by kernel_rfl) rfl rfl (by kernel_rfl) rfl rfl h
theorem atp_sem (ks ps : List (List DV)) (s : ByteArray) (hp : Shp Try.prog 53 ps) (hl : ps.length ≤ 1048576) (hf : (ptO ps s).isSome = true) : FunSem Try.prog 31 [] [.ag [.ro 50 ks, .ro 53 ps], sv s] [] (.ag [.v (.int .i64 (ptX ps s)), .v (.int .i64 (ptY ps s))]) := by
  refine atp_of ks ps s ?_
  refine FC.ev (by kernel_rfl) 100 (X := Shp Try.prog (53 : Nat) ps ∧ List.length ps ≤ (1048576 : Nat) ∧ (0 : Int) ≤ ptI ps s ∧ El Try.prog (53 : Nat) ps (Int.toNat (ptI ps s)) ∧ FC.Fin (c_atp ks ps s) (AV.ag [CV.v (Value.int IntKind.i64 (cI ps (Int.toNat (ptI ps s)) (1 : Nat))), CV.v (Value.int IntKind.i64 (cI ps (Int.toNat (ptI ps s)) (2 : Nat)))]) []) (by kernel_rfl) ?_
  obtain ⟨j, hj⟩ := Option.isSome_iff_exists.1 hf
  have hlt := ptO_lt hj
  have e : ptI ps s = j := by unfold ptI; rw [hj]
  have x : ptX ps s = cI ps j 1 := by unfold ptX; rw [hj]
  have y : ptY ps s = cI ps j 2 := by unfold ptY; rw [hj]
  rw [e, Int.toNat_natCast]
  repeat' (first | (with_reducible refine And.intro ?_ ?_) | refine brN ?_ | refine brD (fun _ => ?_) (fun _ => ?_) | refine brE (fun _ => ?_) (fun _ => ?_) | refine brEn (fun _ => ?_) (fun _ => ?_) | refine brEb (fun _ => ?_) (fun _ => ?_) | refine brS (fun _ => ?_) (fun _ => ?_) | refine brI (fun _ => ?_) (fun _ => ?_) | omega | exact wrI (by omega) (by omega) | exact hp | exact hp.el hlt | exact finV (by show _ = AV.ag _; rw [x, y]) rfl | fail)
noncomputable def e_atp : CE Try.prog := CE.pure 31 [.ag [.l 50, .l 53], .c .x] (fun
  | [.ag [.ro 50 ks, .ro 53 ps], .c (.v (.string s))] => some ([Shp Try.prog 53 ps, ps.length ≤ 1048576, (ptO ps s).isSome = true], .ag [.v (.int .i64 (ptX ps s)), .v (.int .i64 (ptY ps s))], [])
  | _ => none) (by
  intro ys q v hp1 h hq
  split at h <;> cases h
  exact atp_sem _ _ _ hq.1 hq.2.1 hq.2.2.1)
theorem edB {a b : Int} (hb : 0 < b) : (a / b).natAbs ≤ a.natAbs + 1 := by
  have f := flo (a := a) hb
  have t : (a.tdiv b).natAbs ≤ a.natAbs := tdB
  by_cases h : a.tmod b < 0
  · rw [← f.1 h]; omega
  · rw [← f.2 h]; omega
theorem cellB {d N k : Int} (hd : d.natAbs ≤ 15) (hk : k.natAbs ≤ 15) (hN : 0 < N) (hN1 : N ≤ 15) : ((2 * k * d + N) / (2 * N)).natAbs ≤ 1000 := by
  have h1 : (2 * k * d).natAbs ≤ 30 * 15 := mulB (by omega) hd
  have h2 := edB (a := 2 * k * d + N) (b := 2 * N) (by omega)
  omega
theorem wayN_b {ax ay bx b' : Int} (h : In15 ax ay bx b') : 0 ≤ wayN ax ay bx b' ∧ wayN ax ay bx b' ≤ 15 ∧ (bx - ax).natAbs ≤ 15 ∧ (b' - ay).natAbs ≤ 15 := by
  obtain ⟨⟨a1, a2⟩, ⟨a3, a4⟩, ⟨a5, a6⟩, ⟨a7, a8⟩⟩ := h
  unfold wayN; omega
noncomputable def c_lg0 (ax ay bx b' : Int) : FC := mkC Try.prog Try.f32 [0, 1, 2, 3, 4, 5, 6, 7, 8, 9] [0, 1, 2, 3, 4, 5, 6, 7, 8, 9, 29, 37, 67] [([1, 1, 0, 1, 0, 1, 0, 1, 0], [5, 6, 7]), ([1, 1, 1, 1, 1, 0, 1, 0], [2, 3, 5, 8, 9])] [e_mx, e_ab, e_prt] 0 [some (.row true 58 (legR ax ay bx b'))] (.c (.sl 0 (legR ax ay bx b').length))
theorem lg0_of (ax ay bx b' : Int) (h : (c_lg0 ax ay bx b').At [] ⟨mkS 97 [(0, .ag [.v (.int .i64 ax), .v (.int .i64 ay)]), (1, .ag [.v (.int .i64 bx), .v (.int .i64 b')])], []⟩) : FunSem Try.prog 32 [] [.ag [.v (.int .i64 ax), .v (.int .i64 ay)], .ag [.v (.int .i64 bx), .v (.int .i64 b')]] [some (.row true 58 (legR ax ay bx b'))] (.c (.sl 0 (legR ax ay bx b').length)) :=
  FC.sem (C := c_lg0 ax ay bx b') (m := 95) Try.func32 (by kernel_rfl) rfl rfl (by kernel_rfl) rfl rfl h
theorem lg0_l (ax ay bx b' : Int) (ht : ¬ Turned ax ay bx b') (h15 : In15 ax ay bx b') : ∀ (m : Nat) (k : Nat) (ls : List (List DV)) (q : Nat), m = (wayN ax ay bx b').toNat + 1 - k → 1 ≤ k → k ≤ (wayN ax ay bx b').toNat + 1 → ls = wayT ax ay bx b' k → q = ls.length →
    (c_lg0 ax ay bx b').At [1, 1, 1, 1, 1, 0, 1, 0] ⟨mkS 97 [(2, .c (.pt 0 0)), (3, .c (.pt 1 0)), (5, .c (.sl 2 q)), (8, iv (wayN ax ay bx b')), (9, iv k)], [some (.var 58 [.v (.int .i64 ax), .v (.int .i64 ay)]), some (.var 58 [.v (.int .i64 bx), .v (.int .i64 b')]), some (.row true 58 ls)]⟩ := by
  intro m
  induction m using Nat.strongRecOn with
  | _ m ih =>
    intro k ls q hm h1 hk hls hq
    refine FC.loopB (by kernel_rfl) (by kernel_rfl) 100 (X := brP (decide ((↑k : Int) ≤ wayN ax ay bx b')) (IntKind.wrap IntKind.i64 (bx - ax) = bx - ax ∧ Int.natAbs (bx - ax) ≤ (15 : Nat) ∧ Int.natAbs (↑k : Int) ≤ (15 : Nat) ∧ (0 : Int) < wayN ax ay bx b' ∧ wayN ax ay bx b' ≤ (15 : Int) ∧ IntKind.wrap IntKind.i64 (ax + ((2 : Int) * (↑k : Int) * (bx - ax) + wayN ax ay bx b') / ((2 : Int) * wayN ax ay bx b')) = ax + ((2 : Int) * (↑k : Int) * (bx - ax) + wayN ax ay bx b') / ((2 : Int) * wayN ax ay bx b') ∧ IntKind.wrap IntKind.i64 (b' - ay) = b' - ay ∧ Int.natAbs (b' - ay) ≤ (15 : Nat) ∧ Int.natAbs (↑k : Int) ≤ (15 : Nat) ∧ (0 : Int) < wayN ax ay bx b' ∧ wayN ax ay bx b' ≤ (15 : Int) ∧ IntKind.wrap IntKind.i64 (ay + ((2 : Int) * (↑k : Int) * (b' - ay) + wayN ax ay bx b') / ((2 : Int) * wayN ax ay bx b')) = ay + ((2 : Int) * (↑k : Int) * (b' - ay) + wayN ax ay bx b') / ((2 : Int) * wayN ax ay bx b') ∧ q = List.length ls ∧ (List.length [[DV.s (Value.int IntKind.i64 (ax + ((2 : Int) * (↑k : Int) * (bx - ax) + wayN ax ay bx b') / ((2 : Int) * wayN ax ay bx b'))), DV.s (Value.int IntKind.i64 (ay + ((2 : Int) * (↑k : Int) * (b' - ay) + wayN ax ay bx b') / ((2 : Int) * wayN ax ay bx b')))]] = List.length [[DV.s (Value.int IntKind.i64 (ax + ((2 : Int) * (↑k : Int) * (bx - ax) + wayN ax ay bx b') / ((2 : Int) * wayN ax ay bx b'))), DV.s (Value.int IntKind.i64 (ay + ((2 : Int) * (↑k : Int) * (b' - ay) + wayN ax ay bx b') / ((2 : Int) * wayN ax ay bx b')))]] ∧ (List.length ls + List.length [[DV.s (Value.int IntKind.i64 (ax + ((2 : Int) * (↑k : Int) * (bx - ax) + wayN ax ay bx b') / ((2 : Int) * wayN ax ay bx b'))), DV.s (Value.int IntKind.i64 (ay + ((2 : Int) * (↑k : Int) * (b' - ay) + wayN ax ay bx b') / ((2 : Int) * wayN ax ay bx b')))]]) * (16 : Nat) ≤ (140737488355328 : Nat) ∧ List.length ls + List.length [[DV.s (Value.int IntKind.i64 (ax + ((2 : Int) * (↑k : Int) * (bx - ax) + wayN ax ay bx b') / ((2 : Int) * wayN ax ay bx b'))), DV.s (Value.int IntKind.i64 (ay + ((2 : Int) * (↑k : Int) * (b' - ay) + wayN ax ay bx b') / ((2 : Int) * wayN ax ay bx b')))]] ≤ (140737488355328 : Nat)) ∧ IntKind.wrap IntKind.i64 ((↑k : Int) + (1 : Int)) = (↑k : Int) + (1 : Int) ∧ FC.At (c_lg0 ax ay bx b') [(1 : Nat), (1 : Nat), (1 : Nat), (1 : Nat), (1 : Nat), (0 : Nat), (1 : Nat), (0 : Nat)] { sl := mkS (97 : Nat) [((2 : Nat), AV.c (CV.pt (0 : Nat) (0 : Nat))), ((3 : Nat), AV.c (CV.pt (1 : Nat) (0 : Nat))), ((5 : Nat), AV.c (CV.sl (2 : Nat) (List.length (ls ++ [[DV.s (Value.int IntKind.i64 (ax + ((2 : Int) * (↑k : Int) * (bx - ax) + wayN ax ay bx b') / ((2 : Int) * wayN ax ay bx b'))), DV.s (Value.int IntKind.i64 (ay + ((2 : Int) * (↑k : Int) * (b' - ay) + wayN ax ay bx b') / ((2 : Int) * wayN ax ay bx b')))]])))), ((8 : Nat), AV.c (CV.v (Value.int IntKind.i64 (wayN ax ay bx b')))), ((9 : Nat), AV.c (CV.v (Value.int IntKind.i64 ((↑k : Int) + (1 : Int)))))], hp := [some (AB.var (58 : Nat) [CV.v (Value.int IntKind.i64 ax), CV.v (Value.int IntKind.i64 ay)]), some (AB.var (58 : Nat) [CV.v (Value.int IntKind.i64 bx), CV.v (Value.int IntKind.i64 b')]), some (AB.row true (58 : Nat) (ls ++ [[DV.s (Value.int IntKind.i64 (ax + ((2 : Int) * (↑k : Int) * (bx - ax) + wayN ax ay bx b') / ((2 : Int) * wayN ax ay bx b'))), DV.s (Value.int IntKind.i64 (ay + ((2 : Int) * (↑k : Int) * (b' - ay) + wayN ax ay bx b') / ((2 : Int) * wayN ax ay bx b')))]]))] }) (FC.Fin (c_lg0 ax ay bx b') (AV.c (CV.sl (0 : Nat) q)) [some (AB.row true (58 : Nat) ls)])) (by kernel_rfl) ?_
    obtain ⟨n0, n1, d1, d2⟩ := wayN_b h15
    obtain ⟨⟨a1, a2⟩, ⟨a3, a4⟩, ⟨a5, a6⟩, ⟨a7, a8⟩⟩ := h15
    have hl : ls.length = k := by rw [hls, wayT_len]
    refine brD (fun hkn => ?_) (fun hkn => ?_)
    · have w1 := cellB (k := k) d1 (by omega) (show 0 < wayN ax ay bx b' by omega) n1
      have w2 := cellB (k := k) d2 (by omega) (show 0 < wayN ax ay bx b' by omega) n1
      refine ⟨wrI (by omega) (by omega), d1, by omega, by omega, n1, wrI (by omega) (by omega), wrI (by omega) (by omega), d2, by omega, by omega, n1, wrI (by omega) (by omega), hq, ⟨rfl, by simp; omega, by simp; omega⟩, wrI (by omega) (by omega), ?_⟩
      exact ih _ (by omega) (k + 1) _ _ rfl (by omega) (by omega) (by rw [wayT_succ, hls]; rfl) rfl
    · have hkk : k = (wayN ax ay bx b').toNat + 1 := by omega
      have e : legR ax ay bx b' = ls := by unfold legR way; rw [if_neg ht, hls, hkk]
      refine finV ?_ ?_
      · show _ = AV.c (.sl 0 (legR ax ay bx b').length); rw [e, hq]
      · show _ = [some (AB.row true _ (legR ax ay bx b'))]; rw [e]
theorem lg0_n (ax ay bx b' : Int) (ht : ¬ Turned ax ay bx b') (h15 : In15 ax ay bx b') : (c_lg0 ax ay bx b').At [1, 1, 1] ⟨mkS 97 [(0, .ag [.v (.int .i64 ax), .v (.int .i64 ay)]), (1, .ag [.v (.int .i64 bx), .v (.int .i64 b')]), (2, .c (.pt 0 0)), (3, .c (.pt 1 0)), (4, .c (.v (.slice none 0 0))), (5, .c (.sl 2 ([] : List (List DV)).length))], [some (.var 58 [.v (.int .i64 ax), .v (.int .i64 ay)]), some (.var 58 [.v (.int .i64 bx), .v (.int .i64 b')]), some (.row true 58 [])]⟩ := by
  refine FC.ev (by kernel_rfl) 100 (X := IntKind.wrap IntKind.i64 (ax - bx) = ax - bx ∧ (-1000 : Int) ≤ ax - bx ∧ ax - bx ≤ (1000 : Int) ∧ IntKind.wrap IntKind.i64 (ay - b') = ay - b' ∧ (-1000 : Int) ≤ ay - b' ∧ ay - b' ≤ (1000 : Int) ∧ List.length ([] : List (List DV)) = List.length ([] : List (List DV)) ∧ (List.length [[DV.s (Value.int IntKind.i64 ax), DV.s (Value.int IntKind.i64 ay)]] = List.length [[DV.s (Value.int IntKind.i64 ax), DV.s (Value.int IntKind.i64 ay)]] ∧ (List.length ([] : List (List DV)) + List.length [[DV.s (Value.int IntKind.i64 ax), DV.s (Value.int IntKind.i64 ay)]]) * (16 : Nat) ≤ (140737488355328 : Nat) ∧ List.length ([] : List (List DV)) + List.length [[DV.s (Value.int IntKind.i64 ax), DV.s (Value.int IntKind.i64 ay)]] ≤ (140737488355328 : Nat)) ∧ FC.At (c_lg0 ax ay bx b') [(1 : Nat), (1 : Nat), (1 : Nat), (1 : Nat), (1 : Nat), (0 : Nat), (1 : Nat), (0 : Nat)] { sl := mkS (97 : Nat) [((2 : Nat), AV.c (CV.pt (0 : Nat) (0 : Nat))), ((3 : Nat), AV.c (CV.pt (1 : Nat) (0 : Nat))), ((5 : Nat), AV.c (CV.sl (2 : Nat) (List.length ([] ++ [[DV.s (Value.int IntKind.i64 ax), DV.s (Value.int IntKind.i64 ay)]])))), ((8 : Nat), AV.c (CV.v (Value.int IntKind.i64 (max (↑(Int.natAbs (ax - bx)) : Int) (↑(Int.natAbs (ay - b')) : Int))))), ((9 : Nat), AV.c (CV.v (Value.int IntKind.i64 (1 : Int))))], hp := [some (AB.var (58 : Nat) [CV.v (Value.int IntKind.i64 ax), CV.v (Value.int IntKind.i64 ay)]), some (AB.var (58 : Nat) [CV.v (Value.int IntKind.i64 bx), CV.v (Value.int IntKind.i64 b')]), some (AB.row true (58 : Nat) ([] ++ [[DV.s (Value.int IntKind.i64 ax), DV.s (Value.int IntKind.i64 ay)]]))] }) (by kernel_rfl) ?_
  have hh := h15
  obtain ⟨⟨a1, a2⟩, ⟨a3, a4⟩, ⟨a5, a6⟩, ⟨a7, a8⟩⟩ := h15
  refine ⟨wrI (by omega) (by omega), by omega, by omega, wrI (by omega) (by omega), by omega, by omega, rfl, ⟨rfl, by simp, by simp⟩, ?_⟩
  exact lg0_l ax ay bx b' ht hh _ 1 _ _ rfl (by omega) (by omega) (by rw [wayT_one]; rfl) rfl
theorem lg0_sem (ax ay bx b' : Int) (ht : ¬ Turned ax ay bx b') (h15 : In15 ax ay bx b') : FunSem Try.prog 32 [] [.ag [.v (.int .i64 ax), .v (.int .i64 ay)], .ag [.v (.int .i64 bx), .v (.int .i64 b')]] [some (.row true 58 (legR ax ay bx b'))] (.c (.sl 0 (legR ax ay bx b').length)) := by
  refine lg0_of ax ay bx b' ?_
  refine FC.ev (by kernel_rfl) 9 (X := brP (decide (bx < ax)) (FC.At (c_lg0 ax ay bx b') [(1 : Nat), (1 : Nat), (0 : Nat), (1 : Nat), (0 : Nat), (0 : Nat)] { sl := mkS (97 : Nat) [((0 : Nat), AV.ag [CV.v (Value.int IntKind.i64 ax), CV.v (Value.int IntKind.i64 ay)]), ((1 : Nat), AV.ag [CV.v (Value.int IntKind.i64 bx), CV.v (Value.int IntKind.i64 b')]), ((2 : Nat), AV.c (CV.pt (0 : Nat) (0 : Nat))), ((3 : Nat), AV.c (CV.pt (1 : Nat) (0 : Nat))), ((4 : Nat), AV.c (CV.v (Value.slice none (0 : Nat) (0 : Nat)))), ((5 : Nat), AV.c (CV.sl (2 : Nat) (List.length ([] : List (List DV)))))], hp := [some (AB.var (58 : Nat) [CV.v (Value.int IntKind.i64 ax), CV.v (Value.int IntKind.i64 ay)]), some (AB.var (58 : Nat) [CV.v (Value.int IntKind.i64 bx), CV.v (Value.int IntKind.i64 b')]), some (AB.row true (58 : Nat) [])] }) (brP (bx == ax) (brP (decide (b' < ay)) (FC.At (c_lg0 ax ay bx b') [(1 : Nat), (1 : Nat), (0 : Nat), (1 : Nat), (0 : Nat), (0 : Nat)] { sl := mkS (97 : Nat) [((0 : Nat), AV.ag [CV.v (Value.int IntKind.i64 ax), CV.v (Value.int IntKind.i64 ay)]), ((1 : Nat), AV.ag [CV.v (Value.int IntKind.i64 bx), CV.v (Value.int IntKind.i64 b')]), ((2 : Nat), AV.c (CV.pt (0 : Nat) (0 : Nat))), ((3 : Nat), AV.c (CV.pt (1 : Nat) (0 : Nat))), ((4 : Nat), AV.c (CV.v (Value.slice none (0 : Nat) (0 : Nat)))), ((5 : Nat), AV.c (CV.sl (2 : Nat) (List.length ([] : List (List DV)))))], hp := [some (AB.var (58 : Nat) [CV.v (Value.int IntKind.i64 ax), CV.v (Value.int IntKind.i64 ay)]), some (AB.var (58 : Nat) [CV.v (Value.int IntKind.i64 bx), CV.v (Value.int IntKind.i64 b')]), some (AB.row true (58 : Nat) [])] }) (FC.At (c_lg0 ax ay bx b') [(1 : Nat), (1 : Nat), (1 : Nat)] { sl := mkS (97 : Nat) [((0 : Nat), AV.ag [CV.v (Value.int IntKind.i64 ax), CV.v (Value.int IntKind.i64 ay)]), ((1 : Nat), AV.ag [CV.v (Value.int IntKind.i64 bx), CV.v (Value.int IntKind.i64 b')]), ((2 : Nat), AV.c (CV.pt (0 : Nat) (0 : Nat))), ((3 : Nat), AV.c (CV.pt (1 : Nat) (0 : Nat))), ((4 : Nat), AV.c (CV.v (Value.slice none (0 : Nat) (0 : Nat)))), ((5 : Nat), AV.c (CV.sl (2 : Nat) (List.length ([] : List (List DV)))))], hp := [some (AB.var (58 : Nat) [CV.v (Value.int IntKind.i64 ax), CV.v (Value.int IntKind.i64 ay)]), some (AB.var (58 : Nat) [CV.v (Value.int IntKind.i64 bx), CV.v (Value.int IntKind.i64 b')]), some (AB.row true (58 : Nat) [])] })) (FC.At (c_lg0 ax ay bx b') [(1 : Nat), (1 : Nat), (1 : Nat)] { sl := mkS (97 : Nat) [((0 : Nat), AV.ag [CV.v (Value.int IntKind.i64 ax), CV.v (Value.int IntKind.i64 ay)]), ((1 : Nat), AV.ag [CV.v (Value.int IntKind.i64 bx), CV.v (Value.int IntKind.i64 b')]), ((2 : Nat), AV.c (CV.pt (0 : Nat) (0 : Nat))), ((3 : Nat), AV.c (CV.pt (1 : Nat) (0 : Nat))), ((4 : Nat), AV.c (CV.v (Value.slice none (0 : Nat) (0 : Nat)))), ((5 : Nat), AV.c (CV.sl (2 : Nat) (List.length ([] : List (List DV)))))], hp := [some (AB.var (58 : Nat) [CV.v (Value.int IntKind.i64 ax), CV.v (Value.int IntKind.i64 ay)]), some (AB.var (58 : Nat) [CV.v (Value.int IntKind.i64 bx), CV.v (Value.int IntKind.i64 b')]), some (AB.row true (58 : Nat) [])] }))) (by kernel_rfl) ?_
  refine brD (fun h => absurd (.inl h) ht) (fun h1 => brE (fun h2 => brD (fun h => absurd (.inr ⟨h2, h⟩) ht) (fun h3 => ?_)) (fun h2 => ?_))
  · exact lg0_n ax ay bx b' ht h15
  · exact lg0_n ax ay bx b' ht h15
noncomputable def e_lg0 : CE Try.prog := CE.pure 32 [.ag [.x, .x], .ag [.x, .x]] (fun
  | [.ag [.v (.int .i64 ax), .v (.int .i64 ay)], .ag [.v (.int .i64 bx), .v (.int .i64 b')]] => some ([¬ Turned ax ay bx b', In15 ax ay bx b'], .c (.sl 0 (legR ax ay bx b').length), [some (.row true 58 (legR ax ay bx b'))])
  | _ => none) (by
  intro ys q v hp1 h hq
  split at h <;> cases h
  exact lg0_sem _ _ _ _ hq.1 hq.2.1)
noncomputable def c_lg1 (ax ay bx b' : Int) : FC := mkC Try.prog Try.f32 [0, 1, 2, 3, 4, 5, 6, 7, 8, 9] [0, 1, 2, 3, 4, 5, 6, 7, 8, 9, 29, 37, 67] [([1, 1, 0, 1, 0, 1, 0, 1, 0], [5, 6, 7]), ([1, 1, 1, 1, 1, 0, 1, 0], [2, 3, 5, 8, 9])] [e_mx, e_ab, e_prt, e_lg0] 0 [some (.row true 58 (legR ax ay bx b'))] (.c (.sl 0 (legR ax ay bx b').length))
theorem lg1_of (ax ay bx b' : Int) (h : (c_lg1 ax ay bx b').At [] ⟨mkS 97 [(0, .ag [.v (.int .i64 ax), .v (.int .i64 ay)]), (1, .ag [.v (.int .i64 bx), .v (.int .i64 b')])], []⟩) : FunSem Try.prog 32 [] [.ag [.v (.int .i64 ax), .v (.int .i64 ay)], .ag [.v (.int .i64 bx), .v (.int .i64 b')]] [some (.row true 58 (legR ax ay bx b'))] (.c (.sl 0 (legR ax ay bx b').length)) :=
  FC.sem (C := c_lg1 ax ay bx b') (m := 95) Try.func32 (by kernel_rfl) rfl rfl (by kernel_rfl) rfl rfl h
theorem elC {ls : List (List DV)} {i : Nat} (hS : Shp Try.prog 58 ls) (hi : i < ls.length) : ls[i]? = some [DV.s (Value.int IntKind.i64 (cI ls i 0)), DV.s (Value.int IntKind.i64 (cI ls i 1))] := by
  have h := hS.el hi
  unfold El at h
  rw [h]
  exact congrArg some (by kernel_rfl)
theorem turned_not {ax ay bx b' : Int} (h : Turned ax ay bx b') : ¬ Turned bx b' ax ay := by unfold Turned at *; omega
theorem In15.swap {ax ay bx b' : Int} (h : In15 ax ay bx b') : In15 bx b' ax ay := ⟨h.b1, h.b2, h.a1, h.a2⟩
theorem lg1_l (ax ay bx b' : Int) (L : List (List DV)) (hS : Shp Try.prog 58 L) (hL : L.length ≤ 16) (hr : legR ax ay bx b' = L.reverse) : ∀ (m : Nat) (i : Int) (ls : List (List DV)) (q r : Nat), m = (i + 1).toNat → -1 ≤ i → i < L.length → ls = (L.drop (i + 1).toNat).reverse → q = ls.length → r = L.length →
    (c_lg1 ax ay bx b').At [1, 1, 0, 1, 0, 1, 0, 1, 0] ⟨mkS 97 [(5, .c (.sl 0 q)), (6, .c (.sl 1 r)), (7, iv i)], [some (.row true 58 ls), some (.row true 58 L)]⟩ := by
  intro m
  induction m using Nat.strongRecOn with
  | _ m ih =>
    intro i ls q r hm h1 hk hls hq hr'
    refine FC.loopB (by kernel_rfl) (by kernel_rfl) 100 (X := brP (decide (i ≥ (0 : Int))) ((0 : Int) ≤ i ∧ (r = List.length L ∧ Int.toNat i < r) ∧ El Try.prog (58 : Nat) L (Int.toNat i) ∧ q = List.length ls ∧ (List.length [[DV.s (Value.int IntKind.i64 (cI L (Int.toNat i) (0 : Nat))), DV.s (Value.int IntKind.i64 (cI L (Int.toNat i) (1 : Nat)))]] = List.length [[DV.s (Value.int IntKind.i64 (cI L (Int.toNat i) (0 : Nat))), DV.s (Value.int IntKind.i64 (cI L (Int.toNat i) (1 : Nat)))]] ∧ (List.length ls + List.length [[DV.s (Value.int IntKind.i64 (cI L (Int.toNat i) (0 : Nat))), DV.s (Value.int IntKind.i64 (cI L (Int.toNat i) (1 : Nat)))]]) * (16 : Nat) ≤ (140737488355328 : Nat) ∧ List.length ls + List.length [[DV.s (Value.int IntKind.i64 (cI L (Int.toNat i) (0 : Nat))), DV.s (Value.int IntKind.i64 (cI L (Int.toNat i) (1 : Nat)))]] ≤ (140737488355328 : Nat)) ∧ IntKind.wrap IntKind.i64 (i - (1 : Int)) = i - (1 : Int) ∧ FC.At (c_lg1 ax ay bx b') [(1 : Nat), (1 : Nat), (0 : Nat), (1 : Nat), (0 : Nat), (1 : Nat), (0 : Nat), (1 : Nat), (0 : Nat)] { sl := mkS (97 : Nat) [((5 : Nat), AV.c (CV.sl (0 : Nat) (List.length (ls ++ [[DV.s (Value.int IntKind.i64 (cI L (Int.toNat i) (0 : Nat))), DV.s (Value.int IntKind.i64 (cI L (Int.toNat i) (1 : Nat)))]])))), ((6 : Nat), AV.c (CV.sl (1 : Nat) r)), ((7 : Nat), AV.c (CV.v (Value.int IntKind.i64 (i - (1 : Int)))))], hp := [some (AB.row true (58 : Nat) (ls ++ [[DV.s (Value.int IntKind.i64 (cI L (Int.toNat i) (0 : Nat))), DV.s (Value.int IntKind.i64 (cI L (Int.toNat i) (1 : Nat)))]])), some (AB.row true (58 : Nat) L)] }) (FC.Fin (c_lg1 ax ay bx b') (AV.c (CV.sl (0 : Nat) q)) [some (AB.row true (58 : Nat) ls)])) (by kernel_rfl) ?_
    have hl : ls.length = L.length - (i + 1).toNat := by rw [hls]; simp
    refine brD (fun h0 => ?_) (fun h0 => ?_)
    · have e : L[i.toNat]? = some [DV.s (Value.int IntKind.i64 (cI L i.toNat 0)), DV.s (Value.int IntKind.i64 (cI L i.toNat 1))] := elC hS (by omega)
      have hlt : i.toNat < L.length := by omega
      refine ⟨h0, ⟨hr', by omega⟩, hS.el (by omega), hq, ⟨rfl, by simp; omega, by simp; omega⟩, wrI (by omega) (by omega), ?_⟩
      refine ih _ (by omega) (i - 1) _ _ _ rfl (by omega) (by omega) ?_ rfl hr'
      rw [show (i - 1 + 1).toNat = i.toNat by omega, List.drop_eq_getElem_cons hlt, List.reverse_cons, hls, show (i + 1).toNat = i.toNat + 1 by omega]
      rw [List.getElem?_eq_getElem hlt] at e
      rw [Option.some.inj e]
    · have : i = -1 := by omega
      subst this
      simp only [show ((-1 : Int) + 1).toNat = 0 from rfl, List.drop_zero] at hls
      refine finV ?_ ?_
      · show _ = AV.c (.sl 0 (legR ax ay bx b').length); rw [hr, ← hls, hq]
      · show _ = [some (AB.row true _ (legR ax ay bx b'))]; rw [hr, ← hls]
theorem lg1_t (ax ay bx b' : Int) (ht : Turned ax ay bx b') (h15 : In15 ax ay bx b') : (c_lg1 ax ay bx b').At [1, 1, 0, 1, 0, 0] ⟨mkS 97 [(0, .ag [.v (.int .i64 ax), .v (.int .i64 ay)]), (1, .ag [.v (.int .i64 bx), .v (.int .i64 b')]), (2, .c (.pt 0 0)), (3, .c (.pt 1 0)), (4, .c (.v (.slice none 0 0))), (5, .c (.sl 2 ([] : List (List DV)).length))], [some (.var 58 [.v (.int .i64 ax), .v (.int .i64 ay)]), some (.var 58 [.v (.int .i64 bx), .v (.int .i64 b')]), some (.row true 58 [])]⟩ := by
  refine FC.ev (by kernel_rfl) 100 (X := ¬Turned bx b' ax ay ∧ In15 bx b' ax ay ∧ IntKind.wrap IntKind.i64 ((↑(List.length (legR bx b' ax ay)) : Int) - (1 : Int)) = (↑(List.length (legR bx b' ax ay)) : Int) - (1 : Int) ∧ FC.At (c_lg1 ax ay bx b') [(1 : Nat), (1 : Nat), (0 : Nat), (1 : Nat), (0 : Nat), (1 : Nat), (0 : Nat), (1 : Nat), (0 : Nat)] { sl := mkS (97 : Nat) [((5 : Nat), AV.c (CV.sl (0 : Nat) (List.length ([] : List (List DV))))), ((6 : Nat), AV.c (CV.sl (1 : Nat) (List.length (legR bx b' ax ay)))), ((7 : Nat), AV.c (CV.v (Value.int IntKind.i64 ((↑(List.length (legR bx b' ax ay)) : Int) - (1 : Int)))))], hp := [some (AB.row true (58 : Nat) []), some (AB.row true (58 : Nat) (legR bx b' ax ay))] }) (by kernel_rfl) ?_
  have hl := legR_len bx b' ax ay
  have hn := wayN_b h15.swap
  refine ⟨turned_not ht, h15.swap, wrI (by omega) (by omega), ?_⟩
  refine lg1_l ax ay bx b' _ (legR_shp _ _ _ _) (by omega) ?_ _ _ _ _ _ rfl (by omega) (by omega) ?_ rfl rfl
  · have e1 : legR ax ay bx b' = (way bx b' ax ay).reverse := by unfold legR; rw [if_pos ht]
    have e2 : legR bx b' ax ay = way bx b' ax ay := by unfold legR; rw [if_neg (turned_not ht)]
    rw [e1, e2]
  · rw [List.drop_eq_nil_of_le (by omega)]; rfl
theorem lg1_sem (ax ay bx b' : Int) (h15 : In15 ax ay bx b') : FunSem Try.prog 32 [] [.ag [.v (.int .i64 ax), .v (.int .i64 ay)], .ag [.v (.int .i64 bx), .v (.int .i64 b')]] [some (.row true 58 (legR ax ay bx b'))] (.c (.sl 0 (legR ax ay bx b').length)) := by
  by_cases ht : Turned ax ay bx b'
  · refine lg1_of ax ay bx b' ?_
    refine FC.ev (by kernel_rfl) 9 (X := brP (decide (bx < ax)) (FC.At (c_lg1 ax ay bx b') [(1 : Nat), (1 : Nat), (0 : Nat), (1 : Nat), (0 : Nat), (0 : Nat)] { sl := mkS (97 : Nat) [((0 : Nat), AV.ag [CV.v (Value.int IntKind.i64 ax), CV.v (Value.int IntKind.i64 ay)]), ((1 : Nat), AV.ag [CV.v (Value.int IntKind.i64 bx), CV.v (Value.int IntKind.i64 b')]), ((2 : Nat), AV.c (CV.pt (0 : Nat) (0 : Nat))), ((3 : Nat), AV.c (CV.pt (1 : Nat) (0 : Nat))), ((4 : Nat), AV.c (CV.v (Value.slice none (0 : Nat) (0 : Nat)))), ((5 : Nat), AV.c (CV.sl (2 : Nat) (List.length ([] : List (List DV)))))], hp := [some (AB.var (58 : Nat) [CV.v (Value.int IntKind.i64 ax), CV.v (Value.int IntKind.i64 ay)]), some (AB.var (58 : Nat) [CV.v (Value.int IntKind.i64 bx), CV.v (Value.int IntKind.i64 b')]), some (AB.row true (58 : Nat) [])] }) (brP (bx == ax) (brP (decide (b' < ay)) (FC.At (c_lg1 ax ay bx b') [(1 : Nat), (1 : Nat), (0 : Nat), (1 : Nat), (0 : Nat), (0 : Nat)] { sl := mkS (97 : Nat) [((0 : Nat), AV.ag [CV.v (Value.int IntKind.i64 ax), CV.v (Value.int IntKind.i64 ay)]), ((1 : Nat), AV.ag [CV.v (Value.int IntKind.i64 bx), CV.v (Value.int IntKind.i64 b')]), ((2 : Nat), AV.c (CV.pt (0 : Nat) (0 : Nat))), ((3 : Nat), AV.c (CV.pt (1 : Nat) (0 : Nat))), ((4 : Nat), AV.c (CV.v (Value.slice none (0 : Nat) (0 : Nat)))), ((5 : Nat), AV.c (CV.sl (2 : Nat) (List.length ([] : List (List DV)))))], hp := [some (AB.var (58 : Nat) [CV.v (Value.int IntKind.i64 ax), CV.v (Value.int IntKind.i64 ay)]), some (AB.var (58 : Nat) [CV.v (Value.int IntKind.i64 bx), CV.v (Value.int IntKind.i64 b')]), some (AB.row true (58 : Nat) [])] }) (FC.At (c_lg1 ax ay bx b') [(1 : Nat), (1 : Nat), (1 : Nat)] { sl := mkS (97 : Nat) [((0 : Nat), AV.ag [CV.v (Value.int IntKind.i64 ax), CV.v (Value.int IntKind.i64 ay)]), ((1 : Nat), AV.ag [CV.v (Value.int IntKind.i64 bx), CV.v (Value.int IntKind.i64 b')]), ((2 : Nat), AV.c (CV.pt (0 : Nat) (0 : Nat))), ((3 : Nat), AV.c (CV.pt (1 : Nat) (0 : Nat))), ((4 : Nat), AV.c (CV.v (Value.slice none (0 : Nat) (0 : Nat)))), ((5 : Nat), AV.c (CV.sl (2 : Nat) (List.length ([] : List (List DV)))))], hp := [some (AB.var (58 : Nat) [CV.v (Value.int IntKind.i64 ax), CV.v (Value.int IntKind.i64 ay)]), some (AB.var (58 : Nat) [CV.v (Value.int IntKind.i64 bx), CV.v (Value.int IntKind.i64 b')]), some (AB.row true (58 : Nat) [])] })) (FC.At (c_lg1 ax ay bx b') [(1 : Nat), (1 : Nat), (1 : Nat)] { sl := mkS (97 : Nat) [((0 : Nat), AV.ag [CV.v (Value.int IntKind.i64 ax), CV.v (Value.int IntKind.i64 ay)]), ((1 : Nat), AV.ag [CV.v (Value.int IntKind.i64 bx), CV.v (Value.int IntKind.i64 b')]), ((2 : Nat), AV.c (CV.pt (0 : Nat) (0 : Nat))), ((3 : Nat), AV.c (CV.pt (1 : Nat) (0 : Nat))), ((4 : Nat), AV.c (CV.v (Value.slice none (0 : Nat) (0 : Nat)))), ((5 : Nat), AV.c (CV.sl (2 : Nat) (List.length ([] : List (List DV)))))], hp := [some (AB.var (58 : Nat) [CV.v (Value.int IntKind.i64 ax), CV.v (Value.int IntKind.i64 ay)]), some (AB.var (58 : Nat) [CV.v (Value.int IntKind.i64 bx), CV.v (Value.int IntKind.i64 b')]), some (AB.row true (58 : Nat) [])] }))) (by kernel_rfl) ?_
    refine brD (fun h => ?_) (fun h1 => brE (fun h2 => brD (fun h => ?_) (fun h3 => ?_)) (fun h2 => ?_))
    · exact lg1_t ax ay bx b' ht h15
    · exact lg1_t ax ay bx b' ht h15
    · unfold Turned at ht; omega
    · unfold Turned at ht; omega
  · exact lg0_sem ax ay bx b' ht h15
noncomputable def e_lg1 : CE Try.prog := CE.pure 32 [.ag [.x, .x], .ag [.x, .x]] (fun
  | [.ag [.v (.int .i64 ax), .v (.int .i64 ay)], .ag [.v (.int .i64 bx), .v (.int .i64 b')]] => some ([In15 ax ay bx b'], .c (.sl 0 (legR ax ay bx b').length), [some (.row true 58 (legR ax ay bx b'))])
  | _ => none) (by
  intro ys q v hp1 h hq
  split at h <;> cases h
  exact lg1_sem _ _ _ _ hq.1)
noncomputable def c_lg2 (ax ay bx b' : Int) : FC := mkC Try.prog Try.f35 [0, 1, 2, 3, 4, 5, 6, 7, 8, 9, 10] [0, 1, 2, 3, 4, 5, 6, 7, 8, 9, 10, 30, 58, 97, 103] [([1, 1, 1, 1, 1, 0, 1, 0], [2, 3, 5, 6, 7, 8]), ([1, 1, 1, 1, 1, 1, 0, 1, 0, 1, 0], [7, 9, 10])] [e_flr] 0 [some (.row true 58 (legR ax ay bx b'))] (.c (.sl 0 (legR ax ay bx b').length))
theorem lg2_of (ax ay bx b' : Int) (h : (c_lg2 ax ay bx b').At [] ⟨mkS 123 [(0, .ag [.v (.int .i64 ax), .v (.int .i64 ay)]), (1, .ag [.v (.int .i64 bx), .v (.int .i64 b')])], []⟩) : FunSem Try.prog 35 [] [.ag [.v (.int .i64 ax), .v (.int .i64 ay)], .ag [.v (.int .i64 bx), .v (.int .i64 b')]] [some (.row true 58 (legR ax ay bx b'))] (.c (.sl 0 (legR ax ay bx b').length)) :=
  FC.sem (C := c_lg2 ax ay bx b') (m := 121) Try.func35 (by kernel_rfl) rfl rfl (by kernel_rfl) rfl rfl h
theorem lg2_l2 (cx cy dx dy : Int) (L : List (List DV)) (hS : Shp Try.prog 58 L) (hL : L.length ≤ 16) (hr : legR cx cy dx dy = L.reverse) : ∀ (m : Nat) (i k : Int) (ms : List (List DV)) (q : Nat), m = (k + 1 - i).toNat → q = ms.length → 0 ≤ i → i ≤ k + 1 → k = L.length - 1 - i → ms.length = L.length → Shp Try.prog 58 ms →
    (∀ j : Nat, j < L.length → ms[j]? = if (j : Int) < i ∨ k < j then L[L.length - 1 - j]? else L[j]?) →
    (c_lg2 cx cy dx dy).At [1, 1, 1, 1, 1, 1, 0, 1, 0, 1, 0] ⟨mkS 123 [(7, .c (.sl 0 q)), (9, iv i), (10, iv k)], [some (.row true 58 ms)]⟩ := by
  intro m
  induction m using Nat.strongRecOn with
  | _ m ih =>
    intro i k ms q hm hq h0 hik hk hlen hSm hI
    refine FC.loopB (by kernel_rfl) (by kernel_rfl) 100 (X := brP (decide (i < k)) ((0 : Int) ≤ k ∧ (q = List.length ms ∧ Int.toNat k < q) ∧ El Try.prog (58 : Nat) ms (Int.toNat k) ∧ (0 : Int) ≤ i ∧ (q = List.length ms ∧ Int.toNat i < q) ∧ El Try.prog (58 : Nat) ms (Int.toNat i) ∧ (0 : Int) ≤ i ∧ (q = List.length ms ∧ Int.toNat i < q) ∧ El Try.prog (58 : Nat) ms (Int.toNat i) ∧ (0 : Int) ≤ k ∧ (q = List.length (List.set ms (Int.toNat i) [DV.s (Value.int IntKind.i64 (cI ms (Int.toNat k) (0 : Nat))), DV.s (Value.int IntKind.i64 (cI ms (Int.toNat k) (1 : Nat)))]) ∧ Int.toNat k < q) ∧ El Try.prog (58 : Nat) (List.set ms (Int.toNat i) [DV.s (Value.int IntKind.i64 (cI ms (Int.toNat k) (0 : Nat))), DV.s (Value.int IntKind.i64 (cI ms (Int.toNat k) (1 : Nat)))]) (Int.toNat k) ∧ IntKind.wrap IntKind.i64 (i + (1 : Int)) = i + (1 : Int) ∧ IntKind.wrap IntKind.i64 (k - (1 : Int)) = k - (1 : Int) ∧ FC.At (c_lg2 cx cy dx dy) [(1 : Nat), (1 : Nat), (1 : Nat), (1 : Nat), (1 : Nat), (1 : Nat), (0 : Nat), (1 : Nat), (0 : Nat), (1 : Nat), (0 : Nat)] { sl := mkS (123 : Nat) [((7 : Nat), AV.c (CV.sl (0 : Nat) q)), ((9 : Nat), AV.c (CV.v (Value.int IntKind.i64 (i + (1 : Int))))), ((10 : Nat), AV.c (CV.v (Value.int IntKind.i64 (k - (1 : Int)))))], hp := [some (AB.row true (58 : Nat) (List.set (List.set ms (Int.toNat i) [DV.s (Value.int IntKind.i64 (cI ms (Int.toNat k) (0 : Nat))), DV.s (Value.int IntKind.i64 (cI ms (Int.toNat k) (1 : Nat)))]) (Int.toNat k) [DV.s (Value.int IntKind.i64 (cI ms (Int.toNat i) (0 : Nat))), DV.s (Value.int IntKind.i64 (cI ms (Int.toNat i) (1 : Nat)))]))] }) (FC.Fin (c_lg2 cx cy dx dy) (AV.c (CV.sl (0 : Nat) q)) [some (AB.row true (58 : Nat) ms)])) (by kernel_rfl) ?_
    refine brD (fun h => ?_) (fun h => ?_)
    · have ei := elC hSm (i := i.toNat) (by omega)
      have ek := elC hSm (i := k.toNat) (by omega)
      have hil : i.toNat < ms.length := by omega
      have hkl : k.toNat < ms.length := by omega
      have hS1 : ∀ x y, Shp Try.prog 58 (ms.set i.toNat [DV.s (Value.int IntKind.i64 x), DV.s (Value.int IntKind.i64 y)]) := fun x y => hSm.set (by kernel_rfl)
      have hS2 : ∀ x y x' y', Shp Try.prog 58 ((ms.set i.toNat [DV.s (Value.int IntKind.i64 x), DV.s (Value.int IntKind.i64 y)]).set k.toNat [DV.s (Value.int IntKind.i64 x'), DV.s (Value.int IntKind.i64 y')]) := fun x y x' y' => (hS1 x y).set (by kernel_rfl)
      refine ⟨by omega, ⟨hq, by omega⟩, hSm.el hkl, h0, ⟨hq, by omega⟩, hSm.el hil, h0, ⟨hq, by omega⟩, hSm.el hil, by omega, ⟨by simp; omega, by omega⟩, (hS1 _ _).el (by simp; omega), wrI (by omega) (by omega), wrI (by omega) (by omega), ?_⟩
      refine ih _ (by omega) (i + 1) (k - 1) _ _ rfl (by simp; omega) (by omega) (by omega) (by omega) (by simp; omega) (hS2 _ _ _ _) (fun j hj => ?_)
      by_cases hjk : j = k.toNat
      · subst hjk
        rw [List.getElem?_set_self (by simp; omega), ← ei, hI i.toNat (by omega), if_neg (by omega), if_pos (by omega), show L.length - 1 - k.toNat = i.toNat by omega]
      · rw [List.getElem?_set_ne (by omega)]
        by_cases hji : j = i.toNat
        · subst hji
          rw [List.getElem?_set_self (by omega), ← ek, hI k.toNat (by omega), if_neg (by omega), if_pos (by omega), show L.length - 1 - i.toNat = k.toNat by omega]
        · rw [List.getElem?_set_ne (by omega), hI j hj]
          by_cases hc : (j : Int) < i ∨ k < j
          · rw [if_pos hc, if_pos (by omega)]
          · rw [if_neg hc, if_neg (by omega)]
    · have e : ms = L.reverse := by
        refine List.ext_getElem? fun j => ?_
        by_cases hj : j < L.length
        · rw [List.getElem?_reverse hj, hI j hj]
          by_cases hc : (j : Int) < i ∨ k < j
          · rw [if_pos hc]
          · rw [if_neg hc, show L.length - 1 - j = j by omega]
        · rw [List.getElem?_eq_none (by omega), List.getElem?_eq_none (by simp; omega)]
      refine finV ?_ ?_
      · show _ = AV.c (.sl 0 (legR cx cy dx dy).length); rw [hr, ← e, hq]
      · show _ = [some (AB.row true _ (legR cx cy dx dy))]; rw [hr, ← e]
theorem lg2_l1 (cx cy dx dy ax ay bx b' : Int) (tn : Bool) (h15 : In15 ax ay bx b') (hr : legR cx cy dx dy = if tn = true then (way ax ay bx b').reverse else way ax ay bx b') : ∀ (m : Nat) (k : Nat) (ls : List (List DV)) (q : Nat), m = (wayN ax ay bx b').toNat + 1 - k → 1 ≤ k → k ≤ (wayN ax ay bx b').toNat + 1 → ls = wayT ax ay bx b' k → q = ls.length →
    (c_lg2 cx cy dx dy).At [1, 1, 1, 1, 1, 0, 1, 0] ⟨mkS 123 [(2, .c (.pt 0 0)), (3, .c (.pt 1 0)), (5, bv tn), (6, iv (wayN ax ay bx b')), (7, .c (.sl 2 q)), (8, iv k)], [some (.var 58 [.v (.int .i64 ax), .v (.int .i64 ay)]), some (.var 58 [.v (.int .i64 bx), .v (.int .i64 b')]), some (.row true 58 ls)]⟩ := by
  intro m
  induction m using Nat.strongRecOn with
  | _ m ih =>
    intro k ls q hm h1 hk hls hq
    refine FC.loopB (by kernel_rfl) (by kernel_rfl) 100 (X := brP (decide ((↑k : Int) ≤ wayN ax ay bx b')) (IntKind.wrap IntKind.i64 ((2 : Int) * (↑k : Int)) = (2 : Int) * (↑k : Int) ∧ IntKind.wrap IntKind.i64 (bx - ax) = bx - ax ∧ IntKind.wrap IntKind.i64 ((2 : Int) * (↑k : Int) * (bx - ax)) = (2 : Int) * (↑k : Int) * (bx - ax) ∧ IntKind.wrap IntKind.i64 ((2 : Int) * (↑k : Int) * (bx - ax) + wayN ax ay bx b') = (2 : Int) * (↑k : Int) * (bx - ax) + wayN ax ay bx b' ∧ IntKind.wrap IntKind.i64 ((2 : Int) * wayN ax ay bx b') = (2 : Int) * wayN ax ay bx b' ∧ Int.natAbs ((2 : Int) * (↑k : Int) * (bx - ax) + wayN ax ay bx b') ≤ (1000000 : Nat) ∧ (0 : Int) < (2 : Int) * wayN ax ay bx b' ∧ IntKind.wrap IntKind.i64 (ax + ((2 : Int) * (↑k : Int) * (bx - ax) + wayN ax ay bx b') / ((2 : Int) * wayN ax ay bx b')) = ax + ((2 : Int) * (↑k : Int) * (bx - ax) + wayN ax ay bx b') / ((2 : Int) * wayN ax ay bx b') ∧ IntKind.wrap IntKind.i64 ((2 : Int) * (↑k : Int)) = (2 : Int) * (↑k : Int) ∧ IntKind.wrap IntKind.i64 (b' - ay) = b' - ay ∧ IntKind.wrap IntKind.i64 ((2 : Int) * (↑k : Int) * (b' - ay)) = (2 : Int) * (↑k : Int) * (b' - ay) ∧ IntKind.wrap IntKind.i64 ((2 : Int) * (↑k : Int) * (b' - ay) + wayN ax ay bx b') = (2 : Int) * (↑k : Int) * (b' - ay) + wayN ax ay bx b' ∧ IntKind.wrap IntKind.i64 ((2 : Int) * wayN ax ay bx b') = (2 : Int) * wayN ax ay bx b' ∧ Int.natAbs ((2 : Int) * (↑k : Int) * (b' - ay) + wayN ax ay bx b') ≤ (1000000 : Nat) ∧ (0 : Int) < (2 : Int) * wayN ax ay bx b' ∧ IntKind.wrap IntKind.i64 (ay + ((2 : Int) * (↑k : Int) * (b' - ay) + wayN ax ay bx b') / ((2 : Int) * wayN ax ay bx b')) = ay + ((2 : Int) * (↑k : Int) * (b' - ay) + wayN ax ay bx b') / ((2 : Int) * wayN ax ay bx b') ∧ q = List.length ls ∧ (List.length [[DV.s (Value.int IntKind.i64 (ax + ((2 : Int) * (↑k : Int) * (bx - ax) + wayN ax ay bx b') / ((2 : Int) * wayN ax ay bx b'))), DV.s (Value.int IntKind.i64 (ay + ((2 : Int) * (↑k : Int) * (b' - ay) + wayN ax ay bx b') / ((2 : Int) * wayN ax ay bx b')))]] = List.length [[DV.s (Value.int IntKind.i64 (ax + ((2 : Int) * (↑k : Int) * (bx - ax) + wayN ax ay bx b') / ((2 : Int) * wayN ax ay bx b'))), DV.s (Value.int IntKind.i64 (ay + ((2 : Int) * (↑k : Int) * (b' - ay) + wayN ax ay bx b') / ((2 : Int) * wayN ax ay bx b')))]] ∧ (List.length ls + List.length [[DV.s (Value.int IntKind.i64 (ax + ((2 : Int) * (↑k : Int) * (bx - ax) + wayN ax ay bx b') / ((2 : Int) * wayN ax ay bx b'))), DV.s (Value.int IntKind.i64 (ay + ((2 : Int) * (↑k : Int) * (b' - ay) + wayN ax ay bx b') / ((2 : Int) * wayN ax ay bx b')))]]) * (16 : Nat) ≤ (140737488355328 : Nat) ∧ List.length ls + List.length [[DV.s (Value.int IntKind.i64 (ax + ((2 : Int) * (↑k : Int) * (bx - ax) + wayN ax ay bx b') / ((2 : Int) * wayN ax ay bx b'))), DV.s (Value.int IntKind.i64 (ay + ((2 : Int) * (↑k : Int) * (b' - ay) + wayN ax ay bx b') / ((2 : Int) * wayN ax ay bx b')))]] ≤ (140737488355328 : Nat)) ∧ IntKind.wrap IntKind.i64 ((↑k : Int) + (1 : Int)) = (↑k : Int) + (1 : Int) ∧ FC.At (c_lg2 cx cy dx dy) [(1 : Nat), (1 : Nat), (1 : Nat), (1 : Nat), (1 : Nat), (0 : Nat), (1 : Nat), (0 : Nat)] { sl := mkS (123 : Nat) [((2 : Nat), AV.c (CV.pt (0 : Nat) (0 : Nat))), ((3 : Nat), AV.c (CV.pt (1 : Nat) (0 : Nat))), ((5 : Nat), AV.c (CV.v (Value.bool tn))), ((6 : Nat), AV.c (CV.v (Value.int IntKind.i64 (wayN ax ay bx b')))), ((7 : Nat), AV.c (CV.sl (2 : Nat) (List.length (ls ++ [[DV.s (Value.int IntKind.i64 (ax + ((2 : Int) * (↑k : Int) * (bx - ax) + wayN ax ay bx b') / ((2 : Int) * wayN ax ay bx b'))), DV.s (Value.int IntKind.i64 (ay + ((2 : Int) * (↑k : Int) * (b' - ay) + wayN ax ay bx b') / ((2 : Int) * wayN ax ay bx b')))]])))), ((8 : Nat), AV.c (CV.v (Value.int IntKind.i64 ((↑k : Int) + (1 : Int)))))], hp := [some (AB.var (58 : Nat) [CV.v (Value.int IntKind.i64 ax), CV.v (Value.int IntKind.i64 ay)]), some (AB.var (58 : Nat) [CV.v (Value.int IntKind.i64 bx), CV.v (Value.int IntKind.i64 b')]), some (AB.row true (58 : Nat) (ls ++ [[DV.s (Value.int IntKind.i64 (ax + ((2 : Int) * (↑k : Int) * (bx - ax) + wayN ax ay bx b') / ((2 : Int) * wayN ax ay bx b'))), DV.s (Value.int IntKind.i64 (ay + ((2 : Int) * (↑k : Int) * (b' - ay) + wayN ax ay bx b') / ((2 : Int) * wayN ax ay bx b')))]]))] }) (brP tn (IntKind.wrap IntKind.i64 ((↑q : Int) - (1 : Int)) = (↑q : Int) - (1 : Int) ∧ FC.At (c_lg2 cx cy dx dy) [(1 : Nat), (1 : Nat), (1 : Nat), (1 : Nat), (1 : Nat), (1 : Nat), (0 : Nat), (1 : Nat), (0 : Nat), (1 : Nat), (0 : Nat)] { sl := mkS (123 : Nat) [((7 : Nat), AV.c (CV.sl (0 : Nat) q)), ((9 : Nat), AV.c (CV.v (Value.int IntKind.i64 (0 : Int)))), ((10 : Nat), AV.c (CV.v (Value.int IntKind.i64 ((↑q : Int) - (1 : Int)))))], hp := [some (AB.row true (58 : Nat) ls)] }) (FC.Fin (c_lg2 cx cy dx dy) (AV.c (CV.sl (0 : Nat) q)) [some (AB.row true (58 : Nat) ls)]))) (by kernel_rfl) ?_
    have hh := h15
    obtain ⟨n0, n1, d1, d2⟩ := wayN_b h15
    obtain ⟨⟨a1, a2⟩, ⟨a3, a4⟩, ⟨a5, a6⟩, ⟨a7, a8⟩⟩ := h15
    have hl : ls.length = k := by rw [hls, wayT_len]
    refine brD (fun hkn => ?_) (fun hkn => ?_)
    · have w1 := cellB (k := k) d1 (by omega) (show 0 < wayN ax ay bx b' by omega) n1
      have w2 := cellB (k := k) d2 (by omega) (show 0 < wayN ax ay bx b' by omega) n1
      have m1 : (2 * (k : Int) * (bx - ax)).natAbs ≤ 30 * 15 := mulB (by omega) d1
      have m2 : (2 * (k : Int) * (b' - ay)).natAbs ≤ 30 * 15 := mulB (by omega) d2
      refine ⟨wrI (by omega) (by omega), wrI (by omega) (by omega), wrI (by omega) (by omega), wrI (by omega) (by omega), wrI (by omega) (by omega), by omega, by omega, wrI (by omega) (by omega), wrI (by omega) (by omega), wrI (by omega) (by omega), wrI (by omega) (by omega), wrI (by omega) (by omega), wrI (by omega) (by omega), by omega, by omega, wrI (by omega) (by omega), hq, ⟨rfl, by simp; omega, by simp; omega⟩, wrI (by omega) (by omega), ?_⟩
      exact ih _ (by omega) (k + 1) _ _ rfl (by omega) (by omega) (by rw [wayT_succ, hls]; rfl) rfl
    · have hkk : k = (wayN ax ay bx b').toNat + 1 := by omega
      have e : way ax ay bx b' = ls := by unfold way; rw [hls, hkk]
      rw [e] at hr
      refine brI (fun ht => ?_) (fun ht => ?_)
      · rw [ht, if_pos rfl] at hr
        refine ⟨wrI (by omega) (by omega), ?_⟩
        refine lg2_l2 cx cy dx dy ls (by rw [hls]; exact way_shp _ _ _ _ _) (by omega) hr _ 0 _ ls q rfl hq (by omega) (by omega) (by omega) rfl (by rw [hls]; exact way_shp _ _ _ _ _) (fun j hj => ?_)
        rw [if_neg (by omega)]
      · rw [ht, if_neg (by simp)] at hr
        refine finV ?_ ?_
        · show _ = AV.c (.sl 0 (legR cx cy dx dy).length); rw [hr, hq]
        · show _ = [some (AB.row true _ (legR cx cy dx dy))]; rw [hr]
theorem lg2_sem (ax ay bx b' : Int) (h15 : In15 ax ay bx b') : FunSem Try.prog 35 [] [.ag [.v (.int .i64 ax), .v (.int .i64 ay)], .ag [.v (.int .i64 bx), .v (.int .i64 b')]] [some (.row true 58 (legR ax ay bx b'))] (.c (.sl 0 (legR ax ay bx b').length)) := by
  refine lg2_of ax ay bx b' ?_
  refine FC.ev (by kernel_rfl) 100 (X := brP (decide (bx < ax)) (IntKind.wrap IntKind.i64 (bx - ax) = bx - ax ∧ IntKind.wrap IntKind.i64 (ax - bx) = ax - bx ∧ IntKind.wrap IntKind.i64 (b' - ay) = b' - ay ∧ IntKind.wrap IntKind.i64 (ay - b') = ay - b' ∧ FC.At (c_lg2 ax ay bx b') [(1 : Nat), (1 : Nat), (1 : Nat), (1 : Nat), (1 : Nat), (0 : Nat), (1 : Nat), (0 : Nat)] { sl := mkS (123 : Nat) [((2 : Nat), AV.c (CV.pt (0 : Nat) (0 : Nat))), ((3 : Nat), AV.c (CV.pt (1 : Nat) (0 : Nat))), ((5 : Nat), AV.c (CV.v (Value.bool true))), ((6 : Nat), AV.c (CV.v (Value.int IntKind.i64 (mx2 (mx2 (mx2 (bx - ax) (ax - bx)) (b' - ay)) (ay - b'))))), ((7 : Nat), AV.c (CV.sl (2 : Nat) (List.length [[DV.s (Value.int IntKind.i64 bx), DV.s (Value.int IntKind.i64 b')]]))), ((8 : Nat), AV.c (CV.v (Value.int IntKind.i64 (1 : Int))))], hp := [some (AB.var (58 : Nat) [CV.v (Value.int IntKind.i64 bx), CV.v (Value.int IntKind.i64 b')]), some (AB.var (58 : Nat) [CV.v (Value.int IntKind.i64 ax), CV.v (Value.int IntKind.i64 ay)]), some (AB.row true (58 : Nat) [[DV.s (Value.int IntKind.i64 bx), DV.s (Value.int IntKind.i64 b')]])] }) (brP (bx == ax) (brP (decide (b' < ay)) (IntKind.wrap IntKind.i64 (bx - ax) = bx - ax ∧ IntKind.wrap IntKind.i64 (ax - bx) = ax - bx ∧ IntKind.wrap IntKind.i64 (b' - ay) = b' - ay ∧ IntKind.wrap IntKind.i64 (ay - b') = ay - b' ∧ FC.At (c_lg2 ax ay bx b') [(1 : Nat), (1 : Nat), (1 : Nat), (1 : Nat), (1 : Nat), (0 : Nat), (1 : Nat), (0 : Nat)] { sl := mkS (123 : Nat) [((2 : Nat), AV.c (CV.pt (0 : Nat) (0 : Nat))), ((3 : Nat), AV.c (CV.pt (1 : Nat) (0 : Nat))), ((5 : Nat), AV.c (CV.v (Value.bool (decide (b' < ay))))), ((6 : Nat), AV.c (CV.v (Value.int IntKind.i64 (mx2 (mx2 (mx2 (bx - ax) (ax - bx)) (b' - ay)) (ay - b'))))), ((7 : Nat), AV.c (CV.sl (2 : Nat) (List.length [[DV.s (Value.int IntKind.i64 bx), DV.s (Value.int IntKind.i64 b')]]))), ((8 : Nat), AV.c (CV.v (Value.int IntKind.i64 (1 : Int))))], hp := [some (AB.var (58 : Nat) [CV.v (Value.int IntKind.i64 bx), CV.v (Value.int IntKind.i64 b')]), some (AB.var (58 : Nat) [CV.v (Value.int IntKind.i64 ax), CV.v (Value.int IntKind.i64 ay)]), some (AB.row true (58 : Nat) [[DV.s (Value.int IntKind.i64 bx), DV.s (Value.int IntKind.i64 b')]])] }) (IntKind.wrap IntKind.i64 (ax - bx) = ax - bx ∧ IntKind.wrap IntKind.i64 (bx - ax) = bx - ax ∧ IntKind.wrap IntKind.i64 (ay - b') = ay - b' ∧ IntKind.wrap IntKind.i64 (b' - ay) = b' - ay ∧ FC.At (c_lg2 ax ay bx b') [(1 : Nat), (1 : Nat), (1 : Nat), (1 : Nat), (1 : Nat), (0 : Nat), (1 : Nat), (0 : Nat)] { sl := mkS (123 : Nat) [((2 : Nat), AV.c (CV.pt (0 : Nat) (0 : Nat))), ((3 : Nat), AV.c (CV.pt (1 : Nat) (0 : Nat))), ((5 : Nat), AV.c (CV.v (Value.bool (decide (b' < ay))))), ((6 : Nat), AV.c (CV.v (Value.int IntKind.i64 (mx2 (mx2 (mx2 (ax - bx) (bx - ax)) (ay - b')) (b' - ay))))), ((7 : Nat), AV.c (CV.sl (2 : Nat) (List.length [[DV.s (Value.int IntKind.i64 ax), DV.s (Value.int IntKind.i64 ay)]]))), ((8 : Nat), AV.c (CV.v (Value.int IntKind.i64 (1 : Int))))], hp := [some (AB.var (58 : Nat) [CV.v (Value.int IntKind.i64 ax), CV.v (Value.int IntKind.i64 ay)]), some (AB.var (58 : Nat) [CV.v (Value.int IntKind.i64 bx), CV.v (Value.int IntKind.i64 b')]), some (AB.row true (58 : Nat) [[DV.s (Value.int IntKind.i64 ax), DV.s (Value.int IntKind.i64 ay)]])] })) (IntKind.wrap IntKind.i64 (ax - bx) = ax - bx ∧ IntKind.wrap IntKind.i64 (bx - ax) = bx - ax ∧ IntKind.wrap IntKind.i64 (ay - b') = ay - b' ∧ IntKind.wrap IntKind.i64 (b' - ay) = b' - ay ∧ FC.At (c_lg2 ax ay bx b') [(1 : Nat), (1 : Nat), (1 : Nat), (1 : Nat), (1 : Nat), (0 : Nat), (1 : Nat), (0 : Nat)] { sl := mkS (123 : Nat) [((2 : Nat), AV.c (CV.pt (0 : Nat) (0 : Nat))), ((3 : Nat), AV.c (CV.pt (1 : Nat) (0 : Nat))), ((5 : Nat), AV.c (CV.v (Value.bool false))), ((6 : Nat), AV.c (CV.v (Value.int IntKind.i64 (mx2 (mx2 (mx2 (ax - bx) (bx - ax)) (ay - b')) (b' - ay))))), ((7 : Nat), AV.c (CV.sl (2 : Nat) (List.length [[DV.s (Value.int IntKind.i64 ax), DV.s (Value.int IntKind.i64 ay)]]))), ((8 : Nat), AV.c (CV.v (Value.int IntKind.i64 (1 : Int))))], hp := [some (AB.var (58 : Nat) [CV.v (Value.int IntKind.i64 ax), CV.v (Value.int IntKind.i64 ay)]), some (AB.var (58 : Nat) [CV.v (Value.int IntKind.i64 bx), CV.v (Value.int IntKind.i64 b')]), some (AB.row true (58 : Nat) [[DV.s (Value.int IntKind.i64 ax), DV.s (Value.int IntKind.i64 ay)]])] }))) (by kernel_rfl) ?_
  have hh := h15
  obtain ⟨⟨a1, a2⟩, ⟨a3, a4⟩, ⟨a5, a6⟩, ⟨a7, a8⟩⟩ := hh
  have hn : mx2 (mx2 (mx2 (ax - bx) (bx - ax)) (ay - b')) (b' - ay) = wayN ax ay bx b' := by unfold mx2 wayN; (repeat' split) <;> omega
  have hn' : mx2 (mx2 (mx2 (bx - ax) (ax - bx)) (b' - ay)) (ay - b') = wayN bx b' ax ay := by unfold mx2 wayN; (repeat' split) <;> omega
  rw [hn, hn']
  have e1 : Turned ax ay bx b' → legR ax ay bx b' = if true = true then (way bx b' ax ay).reverse else way bx b' ax ay := fun h => by unfold legR; rw [if_pos h]; rfl
  have e2 : ¬ Turned ax ay bx b' → legR ax ay bx b' = if false = true then (way ax ay bx b').reverse else way ax ay bx b' := fun h => by unfold legR; rw [if_neg h]; rfl
  refine brD (fun h => ?_) (fun h1 => brE (fun h2 => brI (fun h => ?_) (fun h => ?_)) (fun h2 => ?_))
  · refine ⟨wrI (by omega) (by omega), wrI (by omega) (by omega), wrI (by omega) (by omega), wrI (by omega) (by omega), ?_⟩
    exact lg2_l1 ax ay bx b' bx b' ax ay true h15.swap (e1 (.inl h)) _ 1 _ _ rfl (by omega) (by have := (wayN_b h15.swap).1; omega) (by rw [wayT_one]; rfl) rfl
  · refine ⟨wrI (by omega) (by omega), wrI (by omega) (by omega), wrI (by omega) (by omega), wrI (by omega) (by omega), ?_⟩
    rw [h]
    exact lg2_l1 ax ay bx b' bx b' ax ay true h15.swap (e1 (.inr ⟨h2, of_decide_eq_true h⟩)) _ 1 _ _ rfl (by omega) (by have := (wayN_b h15.swap).1; omega) (by rw [wayT_one]; rfl) rfl
  · refine ⟨wrI (by omega) (by omega), wrI (by omega) (by omega), wrI (by omega) (by omega), wrI (by omega) (by omega), ?_⟩
    rw [h]
    exact lg2_l1 ax ay bx b' ax ay bx b' false h15 (e2 (fun ht => by have := of_decide_eq_false h; unfold Turned at ht; omega)) _ 1 _ _ rfl (by omega) (by have := (wayN_b h15).1; omega) (by rw [wayT_one]; rfl) rfl
  · refine ⟨wrI (by omega) (by omega), wrI (by omega) (by omega), wrI (by omega) (by omega), wrI (by omega) (by omega), ?_⟩
    exact lg2_l1 ax ay bx b' ax ay bx b' false h15 (e2 (fun ht => by unfold Turned at ht; omega)) _ 1 _ _ rfl (by omega) (by have := (wayN_b h15).1; omega) (by rw [wayT_one]; rfl) rfl
noncomputable def e_lg2 : CE Try.prog := CE.pure 35 [.ag [.x, .x], .ag [.x, .x]] (fun
  | [.ag [.v (.int .i64 ax), .v (.int .i64 ay)], .ag [.v (.int .i64 bx), .v (.int .i64 b')]] => some ([In15 ax ay bx b'], .c (.sl 0 (legR ax ay bx b').length), [some (.row true 58 (legR ax ay bx b'))])
  | _ => none) (by
  intro ys q v hp1 h hq
  split at h <;> cases h
  exact lg2_sem _ _ _ _ hq.1)
end Go.Proofs.Ytekdfddodabfcaa
/- Contracts: routes, cells along a route. -/
namespace Go.Proofs.Ytekdfddodabfcaa
open Go.RowKit
set_option linter.unusedVariables false
set_option linter.unusedSectionVars false
set_option linter.unusedSimpArgs false
def RK (ps rs : List (List DV)) (j : Nat) : Prop := (ptO ps (cS rs j 0)).isSome = true ∧ (0 < j → cS rs (j - 1) 0 ≠ cS rs j 0)
structure RouteOk (ps rs : List (List DV)) : Prop where
  l2 : 2 ≤ rs.length
  l8 : rs.length ≤ 8
  k : ∀ j, j < rs.length → RK ps rs j
open Classical in
noncomputable def routeB (ps rs : List (List DV)) : Bool := decide (RouteOk ps rs)
open Classical in
theorem routeB_t {ps rs : List (List DV)} (h : RouteOk ps rs) : true = routeB ps rs := by unfold routeB; exact (decide_eq_true h).symm
open Classical in
theorem routeB_f {ps rs : List (List DV)} (h : ¬ RouteOk ps rs) : false = routeB ps rs := by unfold routeB; exact (decide_eq_false h).symm
open Classical in
theorem routeB_ok {ps rs : List (List DV)} (h : routeB ps rs = true) : RouteOk ps rs := by unfold routeB at h; exact of_decide_eq_true h
theorem ptI_neg {ps : List (List DV)} {s : ByteArray} : ptI ps s < 0 → ¬ (ptO ps s).isSome = true := by
  unfold ptI; cases ptO ps s with
  | none => simp
  | some j => intro h; exfalso; simp at h; omega
theorem ptI_pos {ps : List (List DV)} {s : ByteArray} : ¬ ptI ps s < 0 → (ptO ps s).isSome = true := by
  unfold ptI; cases ptO ps s with
  | none => simp
  | some j => simp
theorem rangeB_iff {n lo hi : Int} : rangeB n lo hi = true ↔ lo ≤ n ∧ n ≤ hi := by simp [rangeB]
noncomputable def c_ro1 (ks ps rs : List (List DV)) : FC := mkC Try.prog Try.f30 [0, 1, 2, 4, 5] [0, 1, 2, 4, 5, 9, 13, 38] [([1, 1, 0, 1, 0], [1, 2, 5])] [e_in1, e_l1P] 0 [] (bv (routeB ps rs))
theorem ro1_of (ks ps rs : List (List DV)) (h : (c_ro1 ks ps rs).At [] ⟨mkS 39 [(0, .ag [.ro 50 ks, .ro 53 ps]), (1, .c (.ro 9 rs))], []⟩) : FunSem Try.prog 30 [] [.ag [.ro 50 ks, .ro 53 ps], .c (.ro 9 rs)] [] (bv (routeB ps rs)) :=
  FC.sem (C := c_ro1 ks ps rs) (m := 37) Try.func30 (by kernel_rfl) rfl rfl (by kernel_rfl) rfl rfl h
theorem ro1_f {ks ps rs : List (List DV)} (h : ¬ RouteOk ps rs) : (c_ro1 ks ps rs).Fin (bv false) [] := finV (bv_eq (routeB_f h)) rfl
theorem ro1_l (ks ps rs : List (List DV)) (hp : Shp Try.prog 53 ps) (hs : Shp Try.prog 9 rs) (hl : ps.length ≤ 1048576) (l2 : 2 ≤ rs.length) (l8 : rs.length ≤ 8) : ∀ (m : Nat) (i : Int), m = (rs.length - i).toNat → 0 ≤ i → i ≤ rs.length → (∀ j, j < i.toNat → RK ps rs j) →
    (c_ro1 ks ps rs).At [1, 1, 0, 1, 0] ⟨mkS 39 [(1, .c (.ro 9 rs)), (2, .c (.pt 0 0)), (5, iv i)], [some (.var 31 [.ro 50 ks, .ro 53 ps])]⟩ := by
  intro m
  induction m using Nat.strongRecOn with
  | _ m ih =>
    intro i hm h0 hn hK
    refine FC.loopB (by kernel_rfl) (by kernel_rfl) 100 (X := brP (decide (i < (↑(List.length rs) : Int))) ((0 : Int) ≤ i ∧ El Try.prog (9 : Nat) rs (Int.toNat i) ∧ Shp Try.prog (53 : Nat) ps ∧ List.length ps ≤ (1048576 : Nat) ∧ brP (decide (ptI ps (cS rs (Int.toNat i) (0 : Nat)) < (0 : Int))) (FC.Fin (c_ro1 ks ps rs) (AV.c (CV.v (Value.bool false))) []) (brP (decide (i > (0 : Int))) (IntKind.wrap IntKind.i64 (i - (1 : Int)) = i - (1 : Int) ∧ (0 : Int) ≤ i - (1 : Int) ∧ El Try.prog (9 : Nat) rs (Int.toNat (i - (1 : Int))) ∧ (0 : Int) ≤ i ∧ El Try.prog (9 : Nat) rs (Int.toNat i) ∧ brP (ByteArray.toList (cS rs (Int.toNat (i - (1 : Int))) (0 : Nat)) == ByteArray.toList (cS rs (Int.toNat i) (0 : Nat))) (FC.Fin (c_ro1 ks ps rs) (AV.c (CV.v (Value.bool false))) []) (IntKind.wrap IntKind.i64 (i + (1 : Int)) = i + (1 : Int) ∧ FC.At (c_ro1 ks ps rs) [(1 : Nat), (1 : Nat), (0 : Nat), (1 : Nat), (0 : Nat)] { sl := mkS (39 : Nat) [((1 : Nat), AV.c (CV.ro (9 : Nat) rs)), ((2 : Nat), AV.c (CV.pt (0 : Nat) (0 : Nat))), ((5 : Nat), AV.c (CV.v (Value.int IntKind.i64 (i + (1 : Int)))))], hp := [some (AB.var (31 : Nat) [CV.ro (50 : Nat) ks, CV.ro (53 : Nat) ps])] })) (IntKind.wrap IntKind.i64 (i + (1 : Int)) = i + (1 : Int) ∧ FC.At (c_ro1 ks ps rs) [(1 : Nat), (1 : Nat), (0 : Nat), (1 : Nat), (0 : Nat)] { sl := mkS (39 : Nat) [((1 : Nat), AV.c (CV.ro (9 : Nat) rs)), ((2 : Nat), AV.c (CV.pt (0 : Nat) (0 : Nat))), ((5 : Nat), AV.c (CV.v (Value.int IntKind.i64 (i + (1 : Int)))))], hp := [some (AB.var (31 : Nat) [CV.ro (50 : Nat) ks, CV.ro (53 : Nat) ps])] }))) (FC.Fin (c_ro1 ks ps rs) (AV.c (CV.v (Value.bool true))) [])) (by kernel_rfl) ?_
    have e1 : (i - 1).toNat = i.toNat - 1 := by omega
    rw [e1]
    have next : RK ps rs i.toNat → i < rs.length → (c_ro1 ks ps rs).At [1, 1, 0, 1, 0] ⟨mkS 39 [(1, .c (.ro 9 rs)), (2, .c (.pt 0 0)), (5, iv (i + 1))], [some (.var 31 [.ro 50 ks, .ro 53 ps])]⟩ := fun h hlt =>
      ih (rs.length - (i + 1)).toNat (by omega) (i + 1) rfl (by omega) (by omega) fun j hj => by
        by_cases e : j = i.toNat
        · rw [e]; exact h
        · exact hK j (by omega)
    repeat' (first | (with_reducible refine And.intro ?_ ?_) | refine brN ?_ | refine brD (fun _ => ?_) (fun _ => ?_) | refine brE (fun _ => ?_) (fun _ => ?_) | refine brEn (fun _ => ?_) (fun _ => ?_) | refine brEb (fun _ => ?_) (fun _ => ?_) | refine brS (fun _ => ?_) (fun _ => ?_) | refine brI (fun _ => ?_) (fun _ => ?_) | omega | exact wrI (by omega) (by omega) | exact hs.el (by omega) | exact hp | exact next ⟨ptI_pos ‹_›, fun _ => ‹_›⟩ ‹_› | exact next ⟨ptI_pos ‹_›, fun _ => by omega⟩ ‹_› | exact ro1_f (fun hb => ptI_neg ‹_› (hb.k i.toNat (by omega)).1) | exact ro1_f (fun hb => (hb.k i.toNat (by omega)).2 (by omega) ‹_›) | exact finV (bv_eq (routeB_t ⟨l2, l8, fun j hj => hK j (by omega)⟩)) rfl | fail)
theorem ro1_sem (ks ps rs : List (List DV)) (hp : Shp Try.prog 53 ps) (hs : Shp Try.prog 9 rs) (hl : ps.length ≤ 1048576) : FunSem Try.prog 30 [] [.ag [.ro 50 ks, .ro 53 ps], .c (.ro 9 rs)] [] (bv (routeB ps rs)) := by
  refine ro1_of ks ps rs ?_
  refine FC.ev (by kernel_rfl) 100 (X := brP (!rangeB (↑(List.length rs) : Int) (2 : Int) (8 : Int)) (FC.Fin (c_ro1 ks ps rs) (AV.c (CV.v (Value.bool false))) []) (FC.At (c_ro1 ks ps rs) [(1 : Nat), (1 : Nat), (0 : Nat), (1 : Nat), (0 : Nat)] { sl := mkS (39 : Nat) [((1 : Nat), AV.c (CV.ro (9 : Nat) rs)), ((2 : Nat), AV.c (CV.pt (0 : Nat) (0 : Nat))), ((5 : Nat), AV.c (CV.v (Value.int IntKind.i64 (0 : Int))))], hp := [some (AB.var (31 : Nat) [CV.ro (50 : Nat) ks, CV.ro (53 : Nat) ps])] })) (by kernel_rfl) ?_
  refine brN (brI (fun h => ?_) (fun h => ?_))
  · have := rangeB_iff.1 h
    exact ro1_l ks ps rs hp hs hl (by omega) (by omega) _ 0 rfl (by omega) (by omega) (fun j hj => by omega)
  · refine ro1_f fun hb => tf (rangeB_iff.2 ⟨?_, ?_⟩) h
    · have := hb.l2; omega
    · have := hb.l8; omega
noncomputable def e_ro1 : CE Try.prog := CE.pure 30 [.ag [.l 50, .l 53], .c (.l 9)] (fun
  | [.ag [.ro 50 ks, .ro 53 ps], .c (.ro 9 rs)] => some ([Shp Try.prog 53 ps, Shp Try.prog 9 rs, ps.length ≤ 1048576], bv (routeB ps rs), [])
  | _ => none) (by
  intro ys q v hp1 h hq
  split at h <;> cases h
  exact ro1_sem _ _ _ hq.1 hq.2.1 hq.2.2.1)
noncomputable def c_ro2 (ks ps rs : List (List DV)) : FC := mkC Try.prog Try.f33 [0, 1, 2, 4, 5, 6, 8, 13, 14, 15] [0, 1, 2, 4, 5, 6, 8, 12, 13, 14, 15, 16, 40] [([1, 1, 0, 1, 0], [1, 2, 13, 14, 15])] [e_in2, e_pt] 0 [] (bv (routeB ps rs))
theorem ro2_of (ks ps rs : List (List DV)) (h : (c_ro2 ks ps rs).At [] ⟨mkS 42 [(0, .ag [.ro 50 ks, .ro 53 ps]), (1, .c (.ro 9 rs))], []⟩) : FunSem Try.prog 33 [] [.ag [.ro 50 ks, .ro 53 ps], .c (.ro 9 rs)] [] (bv (routeB ps rs)) :=
  FC.sem (C := c_ro2 ks ps rs) (m := 40) Try.func33 (by kernel_rfl) rfl rfl (by kernel_rfl) rfl rfl h
theorem ro2_f {ks ps rs : List (List DV)} (h : ¬ RouteOk ps rs) : (c_ro2 ks ps rs).Fin (bv false) [] := finV (bv_eq (routeB_f h)) rfl
theorem ro2_l (ks ps rs : List (List DV)) (hp : Shp Try.prog 53 ps) (hs : Shp Try.prog 9 rs) (hl : ps.length ≤ 1048576) (l2 : 2 ≤ rs.length) (l8 : rs.length ≤ 8) : ∀ (m : Nat) (i : Int), m = (rs.length - i).toNat → 0 ≤ i → i ≤ rs.length → (∀ j, j < i.toNat → RK ps rs j) →
    (c_ro2 ks ps rs).At [1, 1, 0, 1, 0] ⟨mkS 42 [(1, .c (.ro 9 rs)), (2, .c (.pt 0 0)), (13, .c (.ro 9 rs)), (14, iv rs.length), (15, iv i)], [some (.var 31 [.ro 50 ks, .ro 53 ps])]⟩ := by
  intro m
  induction m using Nat.strongRecOn with
  | _ m ih =>
    intro i hm h0 hn hK
    refine FC.loopB (by kernel_rfl) (by kernel_rfl) 100 (X := brP (decide (i < (↑(List.length rs) : Int))) ((0 : Int) ≤ i ∧ El Try.prog (9 : Nat) rs (Int.toNat i) ∧ Shp Try.prog (53 : Nat) ps ∧ List.length ps ≤ (1048576 : Nat) ∧ brP (!Option.isSome (ptO ps (cS rs (Int.toNat i) (0 : Nat)))) (FC.Fin (c_ro2 ks ps rs) (AV.c (CV.v (Value.bool false))) []) (brP (decide (i > (0 : Int))) (IntKind.wrap IntKind.i64 (i - (1 : Int)) = i - (1 : Int) ∧ (0 : Int) ≤ i - (1 : Int) ∧ El Try.prog (9 : Nat) rs (Int.toNat (i - (1 : Int))) ∧ brP (ByteArray.toList (cS rs (Int.toNat (i - (1 : Int))) (0 : Nat)) == ByteArray.toList (cS rs (Int.toNat i) (0 : Nat))) (FC.Fin (c_ro2 ks ps rs) (AV.c (CV.v (Value.bool false))) []) (IntKind.wrap IntKind.i64 (i + (1 : Int)) = i + (1 : Int) ∧ FC.At (c_ro2 ks ps rs) [(1 : Nat), (1 : Nat), (0 : Nat), (1 : Nat), (0 : Nat)] { sl := mkS (42 : Nat) [((1 : Nat), AV.c (CV.ro (9 : Nat) rs)), ((2 : Nat), AV.c (CV.pt (0 : Nat) (0 : Nat))), ((13 : Nat), AV.c (CV.ro (9 : Nat) rs)), ((14 : Nat), AV.c (CV.v (Value.int IntKind.i64 (↑(List.length rs) : Int)))), ((15 : Nat), AV.c (CV.v (Value.int IntKind.i64 (i + (1 : Int)))))], hp := [some (AB.var (31 : Nat) [CV.ro (50 : Nat) ks, CV.ro (53 : Nat) ps])] })) (IntKind.wrap IntKind.i64 (i + (1 : Int)) = i + (1 : Int) ∧ FC.At (c_ro2 ks ps rs) [(1 : Nat), (1 : Nat), (0 : Nat), (1 : Nat), (0 : Nat)] { sl := mkS (42 : Nat) [((1 : Nat), AV.c (CV.ro (9 : Nat) rs)), ((2 : Nat), AV.c (CV.pt (0 : Nat) (0 : Nat))), ((13 : Nat), AV.c (CV.ro (9 : Nat) rs)), ((14 : Nat), AV.c (CV.v (Value.int IntKind.i64 (↑(List.length rs) : Int)))), ((15 : Nat), AV.c (CV.v (Value.int IntKind.i64 (i + (1 : Int)))))], hp := [some (AB.var (31 : Nat) [CV.ro (50 : Nat) ks, CV.ro (53 : Nat) ps])] }))) (FC.Fin (c_ro2 ks ps rs) (AV.c (CV.v (Value.bool true))) [])) (by kernel_rfl) ?_
    have e1 : (i - 1).toNat = i.toNat - 1 := by omega
    rw [e1]
    have next : RK ps rs i.toNat → i < rs.length → (c_ro2 ks ps rs).At [1, 1, 0, 1, 0] ⟨mkS 42 [(1, .c (.ro 9 rs)), (2, .c (.pt 0 0)), (13, .c (.ro 9 rs)), (14, iv rs.length), (15, iv (i + 1))], [some (.var 31 [.ro 50 ks, .ro 53 ps])]⟩ := fun h hlt =>
      ih (rs.length - (i + 1)).toNat (by omega) (i + 1) rfl (by omega) (by omega) fun j hj => by
        by_cases e : j = i.toNat
        · rw [e]; exact h
        · exact hK j (by omega)
    repeat' (first | (with_reducible refine And.intro ?_ ?_) | refine brN ?_ | refine brD (fun _ => ?_) (fun _ => ?_) | refine brE (fun _ => ?_) (fun _ => ?_) | refine brEn (fun _ => ?_) (fun _ => ?_) | refine brEb (fun _ => ?_) (fun _ => ?_) | refine brS (fun _ => ?_) (fun _ => ?_) | refine brI (fun _ => ?_) (fun _ => ?_) | omega | exact wrI (by omega) (by omega) | exact hs.el (by omega) | exact hp | exact next ⟨‹_›, fun _ => ‹_›⟩ ‹_› | exact next ⟨‹_›, fun _ => by omega⟩ ‹_› | exact ro2_f (fun hb => tf (hb.k i.toNat (by omega)).1 ‹_›) | exact ro2_f (fun hb => (hb.k i.toNat (by omega)).2 (by omega) ‹_›) | exact finV (bv_eq (routeB_t ⟨l2, l8, fun j hj => hK j (by omega)⟩)) rfl | fail)
theorem ro2_sem (ks ps rs : List (List DV)) (hp : Shp Try.prog 53 ps) (hs : Shp Try.prog 9 rs) (hl : ps.length ≤ 1048576) : FunSem Try.prog 33 [] [.ag [.ro 50 ks, .ro 53 ps], .c (.ro 9 rs)] [] (bv (routeB ps rs)) := by
  refine ro2_of ks ps rs ?_
  refine FC.ev (by kernel_rfl) 100 (X := brP (!rangeB (↑(List.length rs) : Int) (2 : Int) (8 : Int)) (FC.Fin (c_ro2 ks ps rs) (AV.c (CV.v (Value.bool false))) []) (FC.At (c_ro2 ks ps rs) [(1 : Nat), (1 : Nat), (0 : Nat), (1 : Nat), (0 : Nat)] { sl := mkS (42 : Nat) [((1 : Nat), AV.c (CV.ro (9 : Nat) rs)), ((2 : Nat), AV.c (CV.pt (0 : Nat) (0 : Nat))), ((13 : Nat), AV.c (CV.ro (9 : Nat) rs)), ((14 : Nat), AV.c (CV.v (Value.int IntKind.i64 (↑(List.length rs) : Int)))), ((15 : Nat), AV.c (CV.v (Value.int IntKind.i64 (0 : Int))))], hp := [some (AB.var (31 : Nat) [CV.ro (50 : Nat) ks, CV.ro (53 : Nat) ps])] })) (by kernel_rfl) ?_
  refine brN (brI (fun h => ?_) (fun h => ?_))
  · have := rangeB_iff.1 h
    exact ro2_l ks ps rs hp hs hl (by omega) (by omega) _ 0 rfl (by omega) (by omega) (fun j hj => by omega)
  · refine ro2_f fun hb => tf (rangeB_iff.2 ⟨?_, ?_⟩) h
    · have := hb.l2; omega
    · have := hb.l8; omega
noncomputable def e_ro2 : CE Try.prog := CE.pure 33 [.ag [.l 50, .l 53], .c (.l 9)] (fun
  | [.ag [.ro 50 ks, .ro 53 ps], .c (.ro 9 rs)] => some ([Shp Try.prog 53 ps, Shp Try.prog 9 rs, ps.length ≤ 1048576], bv (routeB ps rs), [])
  | _ => none) (by
  intro ys q v hp1 h hq
  split at h <;> cases h
  exact ro2_sem _ _ _ hq.1 hq.2.1 hq.2.2.1)
/-! Cells. -/
def rX (ps rs : List (List DV)) (i : Nat) : Int := ptX ps (cS rs i 0)
def rY (ps rs : List (List DV)) (i : Nat) : Int := ptY ps (cS rs i 0)
def cellsN (ps rs : List (List DV)) : Nat → List (List DV)
  | 0 => [cellI (rX ps rs 0) (rY ps rs 0)]
  | n + 1 => cellsN ps rs n ++ (legR (rX ps rs n) (rY ps rs n) (rX ps rs (n + 1)) (rY ps rs (n + 1))).drop 1
noncomputable def cellsB (ks ps rs : List (List DV)) : Bool := baseB ks ps && routeB ps rs && decide ((cellsN ps rs (rs.length - 1)).length ≤ 40)
noncomputable def cellsR (ks ps rs : List (List DV)) : List (List DV) := if cellsB ks ps rs = true then cellsN ps rs (rs.length - 1) else []
noncomputable def c_pc1 (ks ps rs : List (List DV)) : FC := mkC Try.prog Try.f11 [0, 1, 2, 4, 5, 6, 7] [0, 1, 2, 4, 5, 6, 7, 17, 30, 52] [([1, 1, 1, 1, 0, 1, 0], [1, 2, 6, 7])] [e_bo1, e_ro1, e_atp, e_lg1] 0 [some (.row true 58 (cellsR ks ps rs))] (.tu [.inl (.sl 0 (cellsR ks ps rs).length), .inl (.v (.bool (cellsB ks ps rs)))])
theorem pc1_of (ks ps rs : List (List DV)) (h : (c_pc1 ks ps rs).At [] ⟨mkS 55 [(0, .ag [.ro 50 ks, .ro 53 ps]), (1, .c (.ro 9 rs))], []⟩) : FunSem Try.prog 11 [] [.ag [.ro 50 ks, .ro 53 ps], .c (.ro 9 rs)] [some (.row true 58 (cellsR ks ps rs))] (.tu [.inl (.sl 0 (cellsR ks ps rs).length), .inl (.v (.bool (cellsB ks ps rs)))]) :=
  FC.sem (C := c_pc1 ks ps rs) (m := 53) Try.func11 (by kernel_rfl) rfl rfl (by kernel_rfl) rfl rfl h
theorem ptR {ks ps : List (List DV)} {s : ByteArray} (hb : BaseOk ks ps) (h : (ptO ps s).isSome = true) : (0 ≤ ptX ps s ∧ ptX ps s ≤ 15) ∧ (0 ≤ ptY ps s ∧ ptY ps s ≤ 15) := by
  obtain ⟨j, hj⟩ := Option.isSome_iff_exists.1 h
  have h1 := (hb.p j (ptO_lt hj)).1
  have x : ptX ps s = cI ps j 1 := by unfold ptX; rw [hj]
  have y : ptY ps s = cI ps j 2 := by unfold ptY; rw [hj]
  simp [pointB, rangeB] at h1
  rw [x, y]; omega
theorem in15_of {ks ps : List (List DV)} {s t : ByteArray} (hb : BaseOk ks ps) (h : (ptO ps s).isSome = true) (h' : (ptO ps t).isSome = true) : In15 (ptX ps s) (ptY ps s) (ptX ps t) (ptY ps t) :=
  ⟨(ptR hb h).1, (ptR hb h).2, (ptR hb h').1, (ptR hb h').2⟩
theorem cellsN_len {ks ps rs : List (List DV)} (hb : BaseOk ks ps) (hr : RouteOk ps rs) : ∀ n, n < rs.length → (cellsN ps rs n).length ≤ 1 + 15 * n := by
  intro n
  induction n with
  | zero => intro _; simp [cellsN]
  | succ n ih =>
    intro h
    have h1 := ih (by omega)
    have h2 := wayN_b (in15_of hb (hr.k n (by omega)).1 (hr.k (n + 1) h).1)
    simp only [cellsN, List.length_append, List.length_drop, legR_len, rX, rY]
    omega
theorem cellsN_shp (ps rs : List (List DV)) : ∀ n, Shp Try.prog 58 (cellsN ps rs n) := by
  intro n
  induction n with
  | zero => exact Shp.one (by kernel_rfl)
  | succ n ih => exact ih.append ((legR_shp _ _ _ _).drop 1)
theorem cells_f {ks ps rs : List (List DV)} (h : cellsB ks ps rs = false) : cellsR ks ps rs = [] := by unfold cellsR; rw [if_neg (by rw [h]; simp)]
theorem cells_t {ks ps rs : List (List DV)} (h : cellsB ks ps rs = true) : cellsR ks ps rs = cellsN ps rs (rs.length - 1) := by unfold cellsR; rw [if_pos h]
theorem allS_shp {ls : List (List DV)} (h : Shp Try.prog 58 ls) : allS ls = true := by
  unfold allS
  rw [List.all_eq_true]
  intro cs hc
  obtain ⟨i, hi⟩ := List.mem_iff_getElem?.1 hc
  have hlt := (List.getElem?_eq_some_iff.1 hi).1
  rw [elC h hlt] at hi
  cases hi; rfl
theorem leg_take (L : List (List DV)) : List.take (((L.length : Nat) : Int).toNat - Int.toNat 1) (List.drop (Int.toNat 1) L) = L.drop 1 := by
  rw [show Int.toNat 1 = 1 from rfl, Int.toNat_natCast]; exact List.take_of_length_le (by simp)
theorem way_last {ax bx N : Int} (hN : 0 ≤ N) (h : N = 0 → bx = ax) : ax + (2 * N * (bx - ax) + N) / (2 * N) = bx := by
  rcases Int.lt_or_eq_of_le hN with h1 | h1
  · rw [Int.add_comm (2 * N * (bx - ax)) N, Int.add_mul_ediv_left _ _ (by omega), Int.ediv_eq_zero_of_lt hN (by omega)]; omega
  · have := h h1.symm; rw [← h1]; simp; omega
theorem wayT_get (ax ay bx b' : Int) {m k : Nat} (h : k < m) : (wayT ax ay bx b' m)[k]? = some (wayC ax ay bx b' k) := by
  simp [wayT, List.getElem?_range h]
theorem legR_last (ax ay bx b' : Int) : (legR ax ay bx b')[(wayN ax ay bx b').toNat]? = some (cellI bx b') := by
  have hn : 0 ≤ wayN ax ay bx b' := by unfold wayN; omega
  unfold legR
  split
  · have hn' : wayN bx b' ax ay = wayN ax ay bx b' := by unfold wayN; omega
    have hl : (way bx b' ax ay).length = (wayN ax ay bx b').toNat + 1 := by unfold way; rw [wayT_len, hn']
    rw [List.getElem?_reverse (by omega), hl, show (wayN ax ay bx b').toNat + 1 - 1 - (wayN ax ay bx b').toNat = 0 by omega]
    have h1 := wayT_one bx b' ax ay
    have h2 : (wayT bx b' ax ay 1)[0]? = some (cellI bx b') := by rw [h1]; rfl
    rw [wayT_get _ _ _ _ (by omega)] at h2
    unfold way
    rw [wayT_get _ _ _ _ (by omega)]; exact h2
  · unfold way
    rw [wayT_get _ _ _ _ (by omega)]
    unfold wayC
    rw [Int.toNat_of_nonneg hn, way_last hn (fun h => by unfold wayN at h; omega), way_last hn (fun h => by unfold wayN at h; omega)]
theorem cellsN_last (ps rs : List (List DV)) : ∀ n, 0 < (cellsN ps rs n).length ∧ (cellsN ps rs n)[(cellsN ps rs n).length - 1]? = some (cellI (rX ps rs n) (rY ps rs n)) := by
  intro n
  induction n with
  | zero => exact ⟨by simp [cellsN], rfl⟩
  | succ n ih =>
    obtain ⟨h1, h2⟩ := ih
    have hl := legR_len (rX ps rs n) (rY ps rs n) (rX ps rs (n + 1)) (rY ps rs (n + 1))
    have hlast := legR_last (rX ps rs n) (rY ps rs n) (rX ps rs (n + 1)) (rY ps rs (n + 1))
    have hlen : (cellsN ps rs (n + 1)).length = (cellsN ps rs n).length + (wayN (rX ps rs n) (rY ps rs n) (rX ps rs (n + 1)) (rY ps rs (n + 1))).toNat := by
      simp only [cellsN, List.length_append, List.length_drop, hl]; omega
    refine ⟨by omega, ?_⟩
    rw [hlen]
    simp only [cellsN]
    by_cases h0 : wayN (rX ps rs n) (rY ps rs n) (rX ps rs (n + 1)) (rY ps rs (n + 1)) = 0
    · rw [h0, List.drop_eq_nil_of_le (by omega), List.append_nil]
      have e : rX ps rs (n + 1) = rX ps rs n ∧ rY ps rs (n + 1) = rY ps rs n := by unfold wayN at h0; omega
      rw [e.1, e.2]; exact h2
    · have hp : 0 < wayN (rX ps rs n) (rY ps rs n) (rX ps rs (n + 1)) (rY ps rs (n + 1)) := by
        have : 0 ≤ wayN (rX ps rs n) (rY ps rs n) (rX ps rs (n + 1)) (rY ps rs (n + 1)) := by unfold wayN; omega
        omega
      rw [List.getElem?_append_right (by omega), List.getElem?_drop, ← hlast]
      congr 1; omega
theorem pc_val {ks ps rs : List (List DV)} (hb : baseB ks ps = true) (hr : RouteOk ps rs) {n : Nat} (hn : n = rs.length - 1) (h : (cellsN ps rs n).length ≤ 40) : cellsB ks ps rs = true := by
  unfold cellsB; rw [hb, ← routeB_t hr, ← hn, decide_eq_true h]; rfl
theorem pc_val_f {ks ps rs : List (List DV)} {n : Nat} (hn : n = rs.length - 1) (h : ¬ (cellsN ps rs n).length ≤ 40) : cellsB ks ps rs = false := by
  unfold cellsB; rw [← hn, decide_eq_false h, Bool.and_false]
theorem pc_val_b {ks ps rs : List (List DV)} (hb : baseB ks ps = false) : cellsB ks ps rs = false := by unfold cellsB; rw [hb]; rfl
theorem pc_val_r {ks ps rs : List (List DV)} (hr : routeB ps rs = false) : cellsB ks ps rs = false := by unfold cellsB; rw [hr, Bool.and_false]; rfl
section
variable {ks ps rs : List (List DV)}
theorem pc1_f (h : cellsB ks ps rs = false) : (c_pc1 ks ps rs).Fin (AV.tu [Sum.inl (CV.sl 0 ([] : List (List DV)).length), Sum.inl (CV.v (Value.bool false))]) [some (AB.row true 58 [])] := by
  refine finV ?_ ?_
  · show _ = AV.tu [.inl (.sl 0 (cellsR ks ps rs).length), .inl (.v (.bool (cellsB ks ps rs)))]; rw [cells_f h, h]
  · show _ = [some (AB.row true _ (cellsR ks ps rs))]; rw [cells_f h]
theorem pc1_t {q : Nat} {ls : List (List DV)} (h : cellsB ks ps rs = true) (hl : ls = cellsN ps rs (rs.length - 1)) (hq : q = ls.length) : (c_pc1 ks ps rs).Fin (AV.tu [Sum.inl (CV.sl 0 q), Sum.inl (CV.v (Value.bool true))]) [some (AB.row true 58 ls)] := by
  refine finV ?_ ?_
  · show _ = AV.tu [.inl (.sl 0 (cellsR ks ps rs).length), .inl (.v (.bool (cellsB ks ps rs)))]; rw [cells_t h, h, hq, hl]
  · show _ = [some (AB.row true _ (cellsR ks ps rs))]; rw [cells_t h, hl]
end
theorem pc1_l (ks ps rs : List (List DV)) (hk : Shp Try.prog 50 ks) (hp : Shp Try.prog 53 ps) (hs : Shp Try.prog 9 rs) (hlp : ps.length ≤ 1048576) (hB : baseB ks ps = true) (hb : BaseOk ks ps) (hr : RouteOk ps rs) : ∀ (m : Nat) (i : Int) (n : Nat) (ls : List (List DV)) (q : Nat), m = (rs.length - i).toNat → i = n + 1 → i ≤ rs.length → ls = cellsN ps rs n → q = ls.length →
    (c_pc1 ks ps rs).At [1, 1, 1, 1, 0, 1, 0] ⟨mkS 55 [(1, .c (.ro 9 rs)), (2, .c (.pt 0 0)), (6, .c (.sl 1 q)), (7, iv i)], [some (.var 31 [.ro 50 ks, .ro 53 ps]), some (.row true 58 ls)]⟩ := by
  intro m
  induction m using Nat.strongRecOn with
  | _ m ih =>
    intro i n ls q hm hi hle hls hq
    refine FC.loopB (by kernel_rfl) (by kernel_rfl) 100 (X := brP (decide (i < (↑(List.length rs) : Int))) (IntKind.wrap IntKind.i64 (i - (1 : Int)) = i - (1 : Int) ∧ (0 : Int) ≤ i - (1 : Int) ∧ El Try.prog (9 : Nat) rs (Int.toNat (i - (1 : Int))) ∧ Shp Try.prog (53 : Nat) ps ∧ List.length ps ≤ (1048576 : Nat) ∧ Option.isSome (ptO ps (cS rs (Int.toNat (i - (1 : Int))) (0 : Nat))) = true ∧ (0 : Int) ≤ i ∧ El Try.prog (9 : Nat) rs (Int.toNat i) ∧ Shp Try.prog (53 : Nat) ps ∧ List.length ps ≤ (1048576 : Nat) ∧ Option.isSome (ptO ps (cS rs (Int.toNat i) (0 : Nat))) = true ∧ In15 (ptX ps (cS rs (Int.toNat (i - (1 : Int))) (0 : Nat))) (ptY ps (cS rs (Int.toNat (i - (1 : Int))) (0 : Nat))) (ptX ps (cS rs (Int.toNat i) (0 : Nat))) (ptY ps (cS rs (Int.toNat i) (0 : Nat))) ∧ ((0 : Int) ≤ (1 : Int) ∧ (1 : Int) ≤ (↑(List.length (legR (ptX ps (cS rs (Int.toNat (i - (1 : Int))) (0 : Nat))) (ptY ps (cS rs (Int.toNat (i - (1 : Int))) (0 : Nat))) (ptX ps (cS rs (Int.toNat i) (0 : Nat))) (ptY ps (cS rs (Int.toNat i) (0 : Nat))))) : Int) ∧ (↑(List.length (legR (ptX ps (cS rs (Int.toNat (i - (1 : Int))) (0 : Nat))) (ptY ps (cS rs (Int.toNat (i - (1 : Int))) (0 : Nat))) (ptX ps (cS rs (Int.toNat i) (0 : Nat))) (ptY ps (cS rs (Int.toNat i) (0 : Nat))))) : Int) ≤ (↑(List.length (legR (ptX ps (cS rs (Int.toNat (i - (1 : Int))) (0 : Nat))) (ptY ps (cS rs (Int.toNat (i - (1 : Int))) (0 : Nat))) (ptX ps (cS rs (Int.toNat i) (0 : Nat))) (ptY ps (cS rs (Int.toNat i) (0 : Nat))))) : Int) ∧ (↑(List.length (legR (ptX ps (cS rs (Int.toNat (i - (1 : Int))) (0 : Nat))) (ptY ps (cS rs (Int.toNat (i - (1 : Int))) (0 : Nat))) (ptX ps (cS rs (Int.toNat i) (0 : Nat))) (ptY ps (cS rs (Int.toNat i) (0 : Nat))))) : Int) ≤ (↑(List.length (legR (ptX ps (cS rs (Int.toNat (i - (1 : Int))) (0 : Nat))) (ptY ps (cS rs (Int.toNat (i - (1 : Int))) (0 : Nat))) (ptX ps (cS rs (Int.toNat i) (0 : Nat))) (ptY ps (cS rs (Int.toNat i) (0 : Nat))))) : Int)) ∧ (szT Try.prog (58 : Nat) = szT Try.prog (58 : Nat) ∧ List.length (legR (ptX ps (cS rs (Int.toNat (i - (1 : Int))) (0 : Nat))) (ptY ps (cS rs (Int.toNat (i - (1 : Int))) (0 : Nat))) (ptX ps (cS rs (Int.toNat i) (0 : Nat))) (ptY ps (cS rs (Int.toNat i) (0 : Nat)))) = List.length (legR (ptX ps (cS rs (Int.toNat (i - (1 : Int))) (0 : Nat))) (ptY ps (cS rs (Int.toNat (i - (1 : Int))) (0 : Nat))) (ptX ps (cS rs (Int.toNat i) (0 : Nat))) (ptY ps (cS rs (Int.toNat i) (0 : Nat))))) ∧ q = List.length ls ∧ Int.toNat (1 : Int) + (Int.toNat (↑(List.length (legR (ptX ps (cS rs (Int.toNat (i - (1 : Int))) (0 : Nat))) (ptY ps (cS rs (Int.toNat (i - (1 : Int))) (0 : Nat))) (ptX ps (cS rs (Int.toNat i) (0 : Nat))) (ptY ps (cS rs (Int.toNat i) (0 : Nat))))) : Int) - Int.toNat (1 : Int)) ≤ List.length (legR (ptX ps (cS rs (Int.toNat (i - (1 : Int))) (0 : Nat))) (ptY ps (cS rs (Int.toNat (i - (1 : Int))) (0 : Nat))) (ptX ps (cS rs (Int.toNat i) (0 : Nat))) (ptY ps (cS rs (Int.toNat i) (0 : Nat)))) ∧ (allS (List.take (Int.toNat (↑(List.length (legR (ptX ps (cS rs (Int.toNat (i - (1 : Int))) (0 : Nat))) (ptY ps (cS rs (Int.toNat (i - (1 : Int))) (0 : Nat))) (ptX ps (cS rs (Int.toNat i) (0 : Nat))) (ptY ps (cS rs (Int.toNat i) (0 : Nat))))) : Int) - Int.toNat (1 : Int)) (List.drop (Int.toNat (1 : Int)) (legR (ptX ps (cS rs (Int.toNat (i - (1 : Int))) (0 : Nat))) (ptY ps (cS rs (Int.toNat (i - (1 : Int))) (0 : Nat))) (ptX ps (cS rs (Int.toNat i) (0 : Nat))) (ptY ps (cS rs (Int.toNat i) (0 : Nat)))))) = true ∧ (List.length ls + List.length (List.take (Int.toNat (↑(List.length (legR (ptX ps (cS rs (Int.toNat (i - (1 : Int))) (0 : Nat))) (ptY ps (cS rs (Int.toNat (i - (1 : Int))) (0 : Nat))) (ptX ps (cS rs (Int.toNat i) (0 : Nat))) (ptY ps (cS rs (Int.toNat i) (0 : Nat))))) : Int) - Int.toNat (1 : Int)) (List.drop (Int.toNat (1 : Int)) (legR (ptX ps (cS rs (Int.toNat (i - (1 : Int))) (0 : Nat))) (ptY ps (cS rs (Int.toNat (i - (1 : Int))) (0 : Nat))) (ptX ps (cS rs (Int.toNat i) (0 : Nat))) (ptY ps (cS rs (Int.toNat i) (0 : Nat))))))) * (16 : Nat) ≤ (140737488355328 : Nat) ∧ List.length ls + List.length (List.take (Int.toNat (↑(List.length (legR (ptX ps (cS rs (Int.toNat (i - (1 : Int))) (0 : Nat))) (ptY ps (cS rs (Int.toNat (i - (1 : Int))) (0 : Nat))) (ptX ps (cS rs (Int.toNat i) (0 : Nat))) (ptY ps (cS rs (Int.toNat i) (0 : Nat))))) : Int) - Int.toNat (1 : Int)) (List.drop (Int.toNat (1 : Int)) (legR (ptX ps (cS rs (Int.toNat (i - (1 : Int))) (0 : Nat))) (ptY ps (cS rs (Int.toNat (i - (1 : Int))) (0 : Nat))) (ptX ps (cS rs (Int.toNat i) (0 : Nat))) (ptY ps (cS rs (Int.toNat i) (0 : Nat)))))) ≤ (140737488355328 : Nat)) ∧ IntKind.wrap IntKind.i64 (i + (1 : Int)) = i + (1 : Int) ∧ FC.At (c_pc1 ks ps rs) [(1 : Nat), (1 : Nat), (1 : Nat), (1 : Nat), (0 : Nat), (1 : Nat), (0 : Nat)] { sl := mkS (55 : Nat) [((1 : Nat), AV.c (CV.ro (9 : Nat) rs)), ((2 : Nat), AV.c (CV.pt (0 : Nat) (0 : Nat))), ((6 : Nat), AV.c (CV.sl (1 : Nat) (List.length (ls ++ List.take (Int.toNat (↑(List.length (legR (ptX ps (cS rs (Int.toNat (i - (1 : Int))) (0 : Nat))) (ptY ps (cS rs (Int.toNat (i - (1 : Int))) (0 : Nat))) (ptX ps (cS rs (Int.toNat i) (0 : Nat))) (ptY ps (cS rs (Int.toNat i) (0 : Nat))))) : Int) - Int.toNat (1 : Int)) (List.drop (Int.toNat (1 : Int)) (legR (ptX ps (cS rs (Int.toNat (i - (1 : Int))) (0 : Nat))) (ptY ps (cS rs (Int.toNat (i - (1 : Int))) (0 : Nat))) (ptX ps (cS rs (Int.toNat i) (0 : Nat))) (ptY ps (cS rs (Int.toNat i) (0 : Nat))))))))), ((7 : Nat), AV.c (CV.v (Value.int IntKind.i64 (i + (1 : Int)))))], hp := [some (AB.var (31 : Nat) [CV.ro (50 : Nat) ks, CV.ro (53 : Nat) ps]), some (AB.row true (58 : Nat) (ls ++ List.take (Int.toNat (↑(List.length (legR (ptX ps (cS rs (Int.toNat (i - (1 : Int))) (0 : Nat))) (ptY ps (cS rs (Int.toNat (i - (1 : Int))) (0 : Nat))) (ptX ps (cS rs (Int.toNat i) (0 : Nat))) (ptY ps (cS rs (Int.toNat i) (0 : Nat))))) : Int) - Int.toNat (1 : Int)) (List.drop (Int.toNat (1 : Int)) (legR (ptX ps (cS rs (Int.toNat (i - (1 : Int))) (0 : Nat))) (ptY ps (cS rs (Int.toNat (i - (1 : Int))) (0 : Nat))) (ptX ps (cS rs (Int.toNat i) (0 : Nat))) (ptY ps (cS rs (Int.toNat i) (0 : Nat)))))))] }) (brP (decide ((↑q : Int) > (40 : Int))) (FC.Fin (c_pc1 ks ps rs) (AV.tu [Sum.inl (CV.sl (0 : Nat) (List.length ([] : List (List DV)))), Sum.inl (CV.v (Value.bool false))]) [some (AB.row true (58 : Nat) [])]) (FC.Fin (c_pc1 ks ps rs) (AV.tu [Sum.inl (CV.sl (0 : Nat) q), Sum.inl (CV.v (Value.bool true))]) [some (AB.row true (58 : Nat) ls)]))) (by kernel_rfl) ?_
    have e1 : (i - 1).toNat = n := by omega
    have e2 : i.toNat = n + 1 := by omega
    have h8 := hr.l8
    have hcl := cellsN_len hb hr n (by omega)
    rw [← hls] at hcl
    refine brD (fun hlt => ?_) (fun hlt => ?_)
    · have k1 := (hr.k n (by omega)).1
      have k2 := (hr.k (n + 1) (by omega)).1
      have h15 := in15_of hb k1 k2
      have hN := wayN_b h15
      have hll := legR_len (ptX ps (cS rs n 0)) (ptY ps (cS rs n 0)) (ptX ps (cS rs (n + 1) 0)) (ptY ps (cS rs (n + 1) 0))
      have hsh := legR_shp (ptX ps (cS rs n 0)) (ptY ps (cS rs n 0)) (ptX ps (cS rs (n + 1) 0)) (ptY ps (cS rs (n + 1) 0))
      simp only [e1, e2, leg_take]
      have hnx : ls ++ (legR (ptX ps (cS rs n 0)) (ptY ps (cS rs n 0)) (ptX ps (cS rs (n + 1) 0)) (ptY ps (cS rs (n + 1) 0))).drop 1 = cellsN ps rs (n + 1) := by rw [hls]; rfl
      have ha := allS_shp (hsh.drop 1)
      generalize legR (ptX ps (cS rs n 0)) (ptY ps (cS rs n 0)) (ptX ps (cS rs (n + 1) 0)) (ptY ps (cS rs (n + 1) 0)) = L at *
      refine ⟨wrI (by omega) (by omega), by omega, hs.el (by omega), hp, hlp, k1, by omega, hs.el (by omega), hp, hlp, k2, h15, ⟨by omega, by omega, by omega, by omega⟩, ⟨(by trivial), (by trivial)⟩, hq, (by show 1 + (((L.length : Nat) : Int).toNat - 1) ≤ L.length; omega), ⟨ha, by simp; omega, by simp; omega⟩, wrI (by omega) (by omega), ?_⟩
      exact ih _ (by omega) (i + 1) (n + 1) _ _ rfl (by omega) (by omega) hnx rfl
    · have hn : n = rs.length - 1 := by omega
      refine brD (fun h40 => ?_) (fun h40 => ?_)
      · exact pc1_f (pc_val_f hn (by rw [← hls]; omega))
      · exact pc1_t (pc_val hB hr hn (by rw [← hls]; omega)) (by rw [hls, hn]) hq
theorem pc1_sem (ks ps rs : List (List DV)) (hk : Shp Try.prog 50 ks) (hp : Shp Try.prog 53 ps) (hs : Shp Try.prog 9 rs) (hlp : ps.length ≤ 1048576) : FunSem Try.prog 11 [] [.ag [.ro 50 ks, .ro 53 ps], .c (.ro 9 rs)] [some (.row true 58 (cellsR ks ps rs))] (.tu [.inl (.sl 0 (cellsR ks ps rs).length), .inl (.v (.bool (cellsB ks ps rs)))]) := by
  refine pc1_of ks ps rs ?_
  refine FC.ev (by kernel_rfl) 100 (X := Shp Try.prog (50 : Nat) ks ∧ Shp Try.prog (53 : Nat) ps ∧ brP (!baseB ks ps) (FC.Fin (c_pc1 ks ps rs) (AV.tu [Sum.inl (CV.sl (0 : Nat) (List.length ([] : List (List DV)))), Sum.inl (CV.v (Value.bool false))]) [some (AB.row true (58 : Nat) [])]) (Shp Try.prog (53 : Nat) ps ∧ Shp Try.prog (9 : Nat) rs ∧ List.length ps ≤ (1048576 : Nat) ∧ brP (!routeB ps rs) (FC.Fin (c_pc1 ks ps rs) (AV.tu [Sum.inl (CV.sl (0 : Nat) (List.length ([] : List (List DV)))), Sum.inl (CV.v (Value.bool false))]) [some (AB.row true (58 : Nat) [])]) ((0 : Int) ≤ (0 : Int) ∧ El Try.prog (9 : Nat) rs (Int.toNat (0 : Int)) ∧ Shp Try.prog (53 : Nat) ps ∧ List.length ps ≤ (1048576 : Nat) ∧ Option.isSome (ptO ps (cS rs (Int.toNat (0 : Int)) (0 : Nat))) = true ∧ List.length ([] : List (List DV)) = List.length ([] : List (List DV)) ∧ (List.length [[DV.s (Value.int IntKind.i64 (ptX ps (cS rs (Int.toNat (0 : Int)) (0 : Nat)))), DV.s (Value.int IntKind.i64 (ptY ps (cS rs (Int.toNat (0 : Int)) (0 : Nat))))]] = List.length [[DV.s (Value.int IntKind.i64 (ptX ps (cS rs (Int.toNat (0 : Int)) (0 : Nat)))), DV.s (Value.int IntKind.i64 (ptY ps (cS rs (Int.toNat (0 : Int)) (0 : Nat))))]] ∧ (List.length ([] : List (List DV)) + List.length [[DV.s (Value.int IntKind.i64 (ptX ps (cS rs (Int.toNat (0 : Int)) (0 : Nat)))), DV.s (Value.int IntKind.i64 (ptY ps (cS rs (Int.toNat (0 : Int)) (0 : Nat))))]]) * (16 : Nat) ≤ (140737488355328 : Nat) ∧ List.length ([] : List (List DV)) + List.length [[DV.s (Value.int IntKind.i64 (ptX ps (cS rs (Int.toNat (0 : Int)) (0 : Nat)))), DV.s (Value.int IntKind.i64 (ptY ps (cS rs (Int.toNat (0 : Int)) (0 : Nat))))]] ≤ (140737488355328 : Nat)) ∧ FC.At (c_pc1 ks ps rs) [(1 : Nat), (1 : Nat), (1 : Nat), (1 : Nat), (0 : Nat), (1 : Nat), (0 : Nat)] { sl := mkS (55 : Nat) [((1 : Nat), AV.c (CV.ro (9 : Nat) rs)), ((2 : Nat), AV.c (CV.pt (0 : Nat) (0 : Nat))), ((6 : Nat), AV.c (CV.sl (1 : Nat) (List.length ([] ++ [[DV.s (Value.int IntKind.i64 (ptX ps (cS rs (Int.toNat (0 : Int)) (0 : Nat)))), DV.s (Value.int IntKind.i64 (ptY ps (cS rs (Int.toNat (0 : Int)) (0 : Nat))))]])))), ((7 : Nat), AV.c (CV.v (Value.int IntKind.i64 (1 : Int))))], hp := [some (AB.var (31 : Nat) [CV.ro (50 : Nat) ks, CV.ro (53 : Nat) ps]), some (AB.row true (58 : Nat) ([] ++ [[DV.s (Value.int IntKind.i64 (ptX ps (cS rs (Int.toNat (0 : Int)) (0 : Nat)))), DV.s (Value.int IntKind.i64 (ptY ps (cS rs (Int.toNat (0 : Int)) (0 : Nat))))]]))] }))) (by kernel_rfl) ?_
  refine ⟨hk, hp, brN (brI (fun hB => ?_) (fun hB => pc1_f (pc_val_b hB)))⟩
  refine ⟨hp, hs, hlp, brN (brI (fun hR => ?_) (fun hR => pc1_f (pc_val_r hR)))⟩
  have hb := baseB_iff.1 hB
  have hr := routeB_ok hR
  have h2 := hr.l2
  refine ⟨by omega, hs.el (by simp; omega), hp, hlp, (hr.k 0 (by omega)).1, rfl, ⟨rfl, by simp, by simp⟩, ?_⟩
  exact pc1_l ks ps rs hk hp hs hlp hB hb hr _ 1 0 _ _ rfl rfl (by omega) rfl rfl
noncomputable def e_pc1 : CE Try.prog := CE.pure 11 [.ag [.l 50, .l 53], .c (.l 9)] (fun
  | [.ag [.ro 50 ks, .ro 53 ps], .c (.ro 9 rs)] => some ([Shp Try.prog 50 ks, Shp Try.prog 53 ps, Shp Try.prog 9 rs, ps.length ≤ 1048576], .tu [.inl (.sl 0 (cellsR ks ps rs).length), .inl (.v (.bool (cellsB ks ps rs)))], [some (.row true 58 (cellsR ks ps rs))])
  | _ => none) (by
  intro ys q v hp1 h hq
  split at h <;> cases h
  exact pc1_sem _ _ _ hq.1 hq.2.1 hq.2.2.1 hq.2.2.2.1)
noncomputable def c_pc2 (ks ps rs : List (List DV)) : FC := mkC Try.prog Try.f13 [0, 1, 2, 4, 5, 6, 7, 8, 9, 11, 22, 23, 24] [0, 1, 2, 4, 5, 6, 7, 8, 9, 11, 20, 22, 23, 24, 25, 41, 60] [([1, 1, 1, 0, 1, 0], [2, 6, 22, 23, 24])] [e_bo2, e_ro2, e_pt, e_lg2] 0 [some (.row true 58 (cellsR ks ps rs))] (.tu [.inl (.sl 0 (cellsR ks ps rs).length), .inl (.v (.bool (cellsB ks ps rs)))])
theorem pc2_of (ks ps rs : List (List DV)) (h : (c_pc2 ks ps rs).At [] ⟨mkS 62 [(0, .ag [.ro 50 ks, .ro 53 ps]), (1, .c (.ro 9 rs))], []⟩) : FunSem Try.prog 13 [] [.ag [.ro 50 ks, .ro 53 ps], .c (.ro 9 rs)] [some (.row true 58 (cellsR ks ps rs))] (.tu [.inl (.sl 0 (cellsR ks ps rs).length), .inl (.v (.bool (cellsB ks ps rs)))]) :=
  FC.sem (C := c_pc2 ks ps rs) (m := 60) Try.func13 (by kernel_rfl) rfl rfl (by kernel_rfl) rfl rfl h
section
variable {ks ps rs : List (List DV)}
theorem pc2_f (h : cellsB ks ps rs = false) : (c_pc2 ks ps rs).Fin (AV.tu [Sum.inl (CV.sl 0 0), Sum.inl (CV.v (Value.bool false))]) [some (AB.row true 58 [])] := by
  refine finV ?_ ?_
  · show _ = AV.tu [.inl (.sl 0 (cellsR ks ps rs).length), .inl (.v (.bool (cellsB ks ps rs)))]; rw [cells_f h, h]; rfl
  · show _ = [some (AB.row true _ (cellsR ks ps rs))]; rw [cells_f h]
theorem pc2_t {q : Nat} {ls : List (List DV)} (h : cellsB ks ps rs = true) (hl : ls = cellsN ps rs (rs.length - 1)) (hq : q = ls.length) : (c_pc2 ks ps rs).Fin (AV.tu [Sum.inl (CV.sl 0 q), Sum.inl (CV.v (Value.bool true))]) [some (AB.row true 58 ls)] := by
  refine finV ?_ ?_
  · show _ = AV.tu [.inl (.sl 0 (cellsR ks ps rs).length), .inl (.v (.bool (cellsB ks ps rs)))]; rw [cells_t h, h, hq, hl]
  · show _ = [some (AB.row true _ (cellsR ks ps rs))]; rw [cells_t h, hl]
end
/-- The cells behind n names. -/
def cellsM (ps rs : List (List DV)) : Nat → List (List DV)
  | 0 => []
  | n + 1 => cellsN ps rs n
theorem pc2_l (ks ps rs : List (List DV)) (hk : Shp Try.prog 50 ks) (hp : Shp Try.prog 53 ps) (hs : Shp Try.prog 9 rs) (hlp : ps.length ≤ 1048576) (hB : baseB ks ps = true) (hb : BaseOk ks ps) (hr : RouteOk ps rs) : ∀ (m : Nat) (i : Int) (n : Nat) (ls : List (List DV)) (q : Nat), m = (rs.length - i).toNat → i = n → i ≤ rs.length → ls = cellsM ps rs n → q = ls.length →
    (c_pc2 ks ps rs).At [1, 1, 1, 0, 1, 0] ⟨mkS 62 [(2, .c (.pt 0 0)), (6, .c (.sl 1 q)), (22, .c (.ro 9 rs)), (23, iv rs.length), (24, iv i)], [some (.var 31 [.ro 50 ks, .ro 53 ps]), some (.row true 58 ls)]⟩ := by
  intro m
  induction m using Nat.strongRecOn with
  | _ m ih =>
    intro i n ls q hm hi hle hls hq
    refine FC.loopB (by kernel_rfl) (by kernel_rfl) 100 (X := brP (decide (i < (↑(List.length rs) : Int))) ((0 : Int) ≤ i ∧ El Try.prog (9 : Nat) rs (Int.toNat i) ∧ Shp Try.prog (53 : Nat) ps ∧ List.length ps ≤ (1048576 : Nat) ∧ brP (i == (0 : Int)) (q = List.length ls ∧ (List.length [[DV.s (Value.int IntKind.i64 (ptX ps (cS rs (Int.toNat i) (0 : Nat)))), DV.s (Value.int IntKind.i64 (ptY ps (cS rs (Int.toNat i) (0 : Nat))))]] = List.length [[DV.s (Value.int IntKind.i64 (ptX ps (cS rs (Int.toNat i) (0 : Nat)))), DV.s (Value.int IntKind.i64 (ptY ps (cS rs (Int.toNat i) (0 : Nat))))]] ∧ (List.length ls + List.length [[DV.s (Value.int IntKind.i64 (ptX ps (cS rs (Int.toNat i) (0 : Nat)))), DV.s (Value.int IntKind.i64 (ptY ps (cS rs (Int.toNat i) (0 : Nat))))]]) * (16 : Nat) ≤ (140737488355328 : Nat) ∧ List.length ls + List.length [[DV.s (Value.int IntKind.i64 (ptX ps (cS rs (Int.toNat i) (0 : Nat)))), DV.s (Value.int IntKind.i64 (ptY ps (cS rs (Int.toNat i) (0 : Nat))))]] ≤ (140737488355328 : Nat)) ∧ IntKind.wrap IntKind.i64 (i + (1 : Int)) = i + (1 : Int) ∧ FC.At (c_pc2 ks ps rs) [(1 : Nat), (1 : Nat), (1 : Nat), (0 : Nat), (1 : Nat), (0 : Nat)] { sl := mkS (62 : Nat) [((2 : Nat), AV.c (CV.pt (0 : Nat) (0 : Nat))), ((6 : Nat), AV.c (CV.sl (1 : Nat) (List.length (ls ++ [[DV.s (Value.int IntKind.i64 (ptX ps (cS rs (Int.toNat i) (0 : Nat)))), DV.s (Value.int IntKind.i64 (ptY ps (cS rs (Int.toNat i) (0 : Nat))))]])))), ((22 : Nat), AV.c (CV.ro (9 : Nat) rs)), ((23 : Nat), AV.c (CV.v (Value.int IntKind.i64 (↑(List.length rs) : Int)))), ((24 : Nat), AV.c (CV.v (Value.int IntKind.i64 (i + (1 : Int)))))], hp := [some (AB.var (31 : Nat) [CV.ro (50 : Nat) ks, CV.ro (53 : Nat) ps]), some (AB.row true (58 : Nat) (ls ++ [[DV.s (Value.int IntKind.i64 (ptX ps (cS rs (Int.toNat i) (0 : Nat)))), DV.s (Value.int IntKind.i64 (ptY ps (cS rs (Int.toNat i) (0 : Nat))))]]))] }) (IntKind.wrap IntKind.i64 ((↑q : Int) - (1 : Int)) = (↑q : Int) - (1 : Int) ∧ (0 : Int) ≤ (↑q : Int) - (1 : Int) ∧ (q = List.length ls ∧ Int.toNat ((↑q : Int) - (1 : Int)) < q) ∧ El Try.prog (58 : Nat) ls (Int.toNat ((↑q : Int) - (1 : Int))) ∧ In15 (cI ls (Int.toNat ((↑q : Int) - (1 : Int))) (0 : Nat)) (cI ls (Int.toNat ((↑q : Int) - (1 : Int))) (1 : Nat)) (ptX ps (cS rs (Int.toNat i) (0 : Nat))) (ptY ps (cS rs (Int.toNat i) (0 : Nat))) ∧ ((0 : Int) ≤ (1 : Int) ∧ (1 : Int) ≤ (↑(List.length (legR (cI ls (Int.toNat ((↑q : Int) - (1 : Int))) (0 : Nat)) (cI ls (Int.toNat ((↑q : Int) - (1 : Int))) (1 : Nat)) (ptX ps (cS rs (Int.toNat i) (0 : Nat))) (ptY ps (cS rs (Int.toNat i) (0 : Nat))))) : Int) ∧ (↑(List.length (legR (cI ls (Int.toNat ((↑q : Int) - (1 : Int))) (0 : Nat)) (cI ls (Int.toNat ((↑q : Int) - (1 : Int))) (1 : Nat)) (ptX ps (cS rs (Int.toNat i) (0 : Nat))) (ptY ps (cS rs (Int.toNat i) (0 : Nat))))) : Int) ≤ (↑(List.length (legR (cI ls (Int.toNat ((↑q : Int) - (1 : Int))) (0 : Nat)) (cI ls (Int.toNat ((↑q : Int) - (1 : Int))) (1 : Nat)) (ptX ps (cS rs (Int.toNat i) (0 : Nat))) (ptY ps (cS rs (Int.toNat i) (0 : Nat))))) : Int) ∧ (↑(List.length (legR (cI ls (Int.toNat ((↑q : Int) - (1 : Int))) (0 : Nat)) (cI ls (Int.toNat ((↑q : Int) - (1 : Int))) (1 : Nat)) (ptX ps (cS rs (Int.toNat i) (0 : Nat))) (ptY ps (cS rs (Int.toNat i) (0 : Nat))))) : Int) ≤ (↑(List.length (legR (cI ls (Int.toNat ((↑q : Int) - (1 : Int))) (0 : Nat)) (cI ls (Int.toNat ((↑q : Int) - (1 : Int))) (1 : Nat)) (ptX ps (cS rs (Int.toNat i) (0 : Nat))) (ptY ps (cS rs (Int.toNat i) (0 : Nat))))) : Int)) ∧ (szT Try.prog (58 : Nat) = szT Try.prog (58 : Nat) ∧ List.length (legR (cI ls (Int.toNat ((↑q : Int) - (1 : Int))) (0 : Nat)) (cI ls (Int.toNat ((↑q : Int) - (1 : Int))) (1 : Nat)) (ptX ps (cS rs (Int.toNat i) (0 : Nat))) (ptY ps (cS rs (Int.toNat i) (0 : Nat)))) = List.length (legR (cI ls (Int.toNat ((↑q : Int) - (1 : Int))) (0 : Nat)) (cI ls (Int.toNat ((↑q : Int) - (1 : Int))) (1 : Nat)) (ptX ps (cS rs (Int.toNat i) (0 : Nat))) (ptY ps (cS rs (Int.toNat i) (0 : Nat))))) ∧ q = List.length ls ∧ Int.toNat (1 : Int) + (Int.toNat (↑(List.length (legR (cI ls (Int.toNat ((↑q : Int) - (1 : Int))) (0 : Nat)) (cI ls (Int.toNat ((↑q : Int) - (1 : Int))) (1 : Nat)) (ptX ps (cS rs (Int.toNat i) (0 : Nat))) (ptY ps (cS rs (Int.toNat i) (0 : Nat))))) : Int) - Int.toNat (1 : Int)) ≤ List.length (legR (cI ls (Int.toNat ((↑q : Int) - (1 : Int))) (0 : Nat)) (cI ls (Int.toNat ((↑q : Int) - (1 : Int))) (1 : Nat)) (ptX ps (cS rs (Int.toNat i) (0 : Nat))) (ptY ps (cS rs (Int.toNat i) (0 : Nat)))) ∧ (allS (List.take (Int.toNat (↑(List.length (legR (cI ls (Int.toNat ((↑q : Int) - (1 : Int))) (0 : Nat)) (cI ls (Int.toNat ((↑q : Int) - (1 : Int))) (1 : Nat)) (ptX ps (cS rs (Int.toNat i) (0 : Nat))) (ptY ps (cS rs (Int.toNat i) (0 : Nat))))) : Int) - Int.toNat (1 : Int)) (List.drop (Int.toNat (1 : Int)) (legR (cI ls (Int.toNat ((↑q : Int) - (1 : Int))) (0 : Nat)) (cI ls (Int.toNat ((↑q : Int) - (1 : Int))) (1 : Nat)) (ptX ps (cS rs (Int.toNat i) (0 : Nat))) (ptY ps (cS rs (Int.toNat i) (0 : Nat)))))) = true ∧ (List.length ls + List.length (List.take (Int.toNat (↑(List.length (legR (cI ls (Int.toNat ((↑q : Int) - (1 : Int))) (0 : Nat)) (cI ls (Int.toNat ((↑q : Int) - (1 : Int))) (1 : Nat)) (ptX ps (cS rs (Int.toNat i) (0 : Nat))) (ptY ps (cS rs (Int.toNat i) (0 : Nat))))) : Int) - Int.toNat (1 : Int)) (List.drop (Int.toNat (1 : Int)) (legR (cI ls (Int.toNat ((↑q : Int) - (1 : Int))) (0 : Nat)) (cI ls (Int.toNat ((↑q : Int) - (1 : Int))) (1 : Nat)) (ptX ps (cS rs (Int.toNat i) (0 : Nat))) (ptY ps (cS rs (Int.toNat i) (0 : Nat))))))) * (16 : Nat) ≤ (140737488355328 : Nat) ∧ List.length ls + List.length (List.take (Int.toNat (↑(List.length (legR (cI ls (Int.toNat ((↑q : Int) - (1 : Int))) (0 : Nat)) (cI ls (Int.toNat ((↑q : Int) - (1 : Int))) (1 : Nat)) (ptX ps (cS rs (Int.toNat i) (0 : Nat))) (ptY ps (cS rs (Int.toNat i) (0 : Nat))))) : Int) - Int.toNat (1 : Int)) (List.drop (Int.toNat (1 : Int)) (legR (cI ls (Int.toNat ((↑q : Int) - (1 : Int))) (0 : Nat)) (cI ls (Int.toNat ((↑q : Int) - (1 : Int))) (1 : Nat)) (ptX ps (cS rs (Int.toNat i) (0 : Nat))) (ptY ps (cS rs (Int.toNat i) (0 : Nat)))))) ≤ (140737488355328 : Nat)) ∧ IntKind.wrap IntKind.i64 (i + (1 : Int)) = i + (1 : Int) ∧ FC.At (c_pc2 ks ps rs) [(1 : Nat), (1 : Nat), (1 : Nat), (0 : Nat), (1 : Nat), (0 : Nat)] { sl := mkS (62 : Nat) [((2 : Nat), AV.c (CV.pt (0 : Nat) (0 : Nat))), ((6 : Nat), AV.c (CV.sl (1 : Nat) (List.length (ls ++ List.take (Int.toNat (↑(List.length (legR (cI ls (Int.toNat ((↑q : Int) - (1 : Int))) (0 : Nat)) (cI ls (Int.toNat ((↑q : Int) - (1 : Int))) (1 : Nat)) (ptX ps (cS rs (Int.toNat i) (0 : Nat))) (ptY ps (cS rs (Int.toNat i) (0 : Nat))))) : Int) - Int.toNat (1 : Int)) (List.drop (Int.toNat (1 : Int)) (legR (cI ls (Int.toNat ((↑q : Int) - (1 : Int))) (0 : Nat)) (cI ls (Int.toNat ((↑q : Int) - (1 : Int))) (1 : Nat)) (ptX ps (cS rs (Int.toNat i) (0 : Nat))) (ptY ps (cS rs (Int.toNat i) (0 : Nat))))))))), ((22 : Nat), AV.c (CV.ro (9 : Nat) rs)), ((23 : Nat), AV.c (CV.v (Value.int IntKind.i64 (↑(List.length rs) : Int)))), ((24 : Nat), AV.c (CV.v (Value.int IntKind.i64 (i + (1 : Int)))))], hp := [some (AB.var (31 : Nat) [CV.ro (50 : Nat) ks, CV.ro (53 : Nat) ps]), some (AB.row true (58 : Nat) (ls ++ List.take (Int.toNat (↑(List.length (legR (cI ls (Int.toNat ((↑q : Int) - (1 : Int))) (0 : Nat)) (cI ls (Int.toNat ((↑q : Int) - (1 : Int))) (1 : Nat)) (ptX ps (cS rs (Int.toNat i) (0 : Nat))) (ptY ps (cS rs (Int.toNat i) (0 : Nat))))) : Int) - Int.toNat (1 : Int)) (List.drop (Int.toNat (1 : Int)) (legR (cI ls (Int.toNat ((↑q : Int) - (1 : Int))) (0 : Nat)) (cI ls (Int.toNat ((↑q : Int) - (1 : Int))) (1 : Nat)) (ptX ps (cS rs (Int.toNat i) (0 : Nat))) (ptY ps (cS rs (Int.toNat i) (0 : Nat)))))))] })) (brP (decide ((↑q : Int) > (40 : Int))) (FC.Fin (c_pc2 ks ps rs) (AV.tu [Sum.inl (CV.sl (0 : Nat) (0 : Nat)), Sum.inl (CV.v (Value.bool false))]) [some (AB.row true (58 : Nat) [])]) (FC.Fin (c_pc2 ks ps rs) (AV.tu [Sum.inl (CV.sl (0 : Nat) q), Sum.inl (CV.v (Value.bool true))]) [some (AB.row true (58 : Nat) ls)]))) (by kernel_rfl) ?_
    have h8 := hr.l8
    have h2 := hr.l2
    have e2 : i.toNat = n := by omega
    rw [e2]
    refine brD (fun hlt => ⟨by omega, hs.el (by omega), hp, hlp, brE (fun h0 => ?_) (fun h0 => ?_)⟩) (fun hlt => ?_)
    · have hn0 : n = 0 := by omega
      subst hn0
      have hls' : ls = [] := hls
      subst hls'
      refine ⟨hq, ⟨rfl, by simp, by simp⟩, wrI (by omega) (by omega), ?_⟩
      exact ih _ (by omega) (i + 1) 1 _ _ rfl (by omega) (by omega) rfl rfl
    · obtain ⟨n, rfl⟩ : ∃ k, n = k + 1 := ⟨n - 1, by omega⟩
      have hls' : ls = cellsN ps rs n := hls
      have k1 := (hr.k n (by omega)).1
      have k2 := (hr.k (n + 1) (by omega)).1
      have h15 := in15_of hb k1 k2
      have hN := wayN_b h15
      have hcl := cellsN_len hb hr n (by omega)
      rw [← hls'] at hcl
      obtain ⟨c1, c2⟩ := cellsN_last ps rs n
      rw [← hls'] at c1 c2
      have eq1 : ((q : Int) - 1).toNat = ls.length - 1 := by omega
      have hx : cI ls (ls.length - 1) 0 = ptX ps (cS rs n 0) := by simp [cI, cD, List.getD_eq_getElem?_getD, c2, cellI, dI, rX]
      have hy : cI ls (ls.length - 1) 1 = ptY ps (cS rs n 0) := by simp [cI, cD, List.getD_eq_getElem?_getD, c2, cellI, dI, rY]
      have hSl : Shp Try.prog 58 ls := by rw [hls']; exact cellsN_shp _ _ _
      have hll := legR_len (ptX ps (cS rs n 0)) (ptY ps (cS rs n 0)) (ptX ps (cS rs (n + 1) 0)) (ptY ps (cS rs (n + 1) 0))
      have hsh := legR_shp (ptX ps (cS rs n 0)) (ptY ps (cS rs n 0)) (ptX ps (cS rs (n + 1) 0)) (ptY ps (cS rs (n + 1) 0))
      simp only [eq1, hx, hy, leg_take]
      have hnx : ls ++ (legR (ptX ps (cS rs n 0)) (ptY ps (cS rs n 0)) (ptX ps (cS rs (n + 1) 0)) (ptY ps (cS rs (n + 1) 0))).drop 1 = cellsM ps rs (n + 1 + 1) := by rw [hls']; rfl
      have ha := allS_shp (hsh.drop 1)
      generalize legR (ptX ps (cS rs n 0)) (ptY ps (cS rs n 0)) (ptX ps (cS rs (n + 1) 0)) (ptY ps (cS rs (n + 1) 0)) = L at *
      refine ⟨wrI (by omega) (by omega), by omega, ⟨hq, by omega⟩, hSl.el (by omega), h15, ⟨by omega, by omega, by omega, by omega⟩, ⟨(by trivial), (by trivial)⟩, hq, (by show 1 + (((L.length : Nat) : Int).toNat - 1) ≤ L.length; omega), ⟨ha, by simp; omega, by simp; omega⟩, wrI (by omega) (by omega), ?_⟩
      exact ih _ (by omega) (i + 1) (n + 1 + 1) _ _ rfl (by omega) (by omega) hnx rfl
    · obtain ⟨n, rfl⟩ : ∃ k, n = k + 1 := ⟨n - 1, by omega⟩
      have hls' : ls = cellsN ps rs n := hls
      have hn : n = rs.length - 1 := by omega
      refine brD (fun h40 => ?_) (fun h40 => ?_)
      · exact pc2_f (pc_val_f hn (by rw [← hls']; omega))
      · exact pc2_t (pc_val hB hr hn (by rw [← hls']; omega)) (by rw [hls', hn]) hq
theorem pc2_sem (ks ps rs : List (List DV)) (hk : Shp Try.prog 50 ks) (hp : Shp Try.prog 53 ps) (hs : Shp Try.prog 9 rs) (hlp : ps.length ≤ 1048576) : FunSem Try.prog 13 [] [.ag [.ro 50 ks, .ro 53 ps], .c (.ro 9 rs)] [some (.row true 58 (cellsR ks ps rs))] (.tu [.inl (.sl 0 (cellsR ks ps rs).length), .inl (.v (.bool (cellsB ks ps rs)))]) := by
  refine pc2_of ks ps rs ?_
  refine FC.ev (by kernel_rfl) 100 (X := Shp Try.prog (50 : Nat) ks ∧ Shp Try.prog (53 : Nat) ps ∧ brP (!baseB ks ps) (FC.Fin (c_pc2 ks ps rs) (AV.tu [Sum.inl (CV.sl (0 : Nat) (0 : Nat)), Sum.inl (CV.v (Value.bool false))]) [some (AB.row true (58 : Nat) [])]) (Shp Try.prog (53 : Nat) ps ∧ Shp Try.prog (9 : Nat) rs ∧ List.length ps ≤ (1048576 : Nat) ∧ brP (!routeB ps rs) (FC.Fin (c_pc2 ks ps rs) (AV.tu [Sum.inl (CV.sl (0 : Nat) (0 : Nat)), Sum.inl (CV.v (Value.bool false))]) [some (AB.row true (58 : Nat) [])]) (FC.At (c_pc2 ks ps rs) [(1 : Nat), (1 : Nat), (1 : Nat), (0 : Nat), (1 : Nat), (0 : Nat)] { sl := mkS (62 : Nat) [((2 : Nat), AV.c (CV.pt (0 : Nat) (0 : Nat))), ((6 : Nat), AV.c (CV.sl (1 : Nat) (List.length ([] : List (List DV))))), ((22 : Nat), AV.c (CV.ro (9 : Nat) rs)), ((23 : Nat), AV.c (CV.v (Value.int IntKind.i64 (↑(List.length rs) : Int)))), ((24 : Nat), AV.c (CV.v (Value.int IntKind.i64 (0 : Int))))], hp := [some (AB.var (31 : Nat) [CV.ro (50 : Nat) ks, CV.ro (53 : Nat) ps]), some (AB.row true (58 : Nat) [])] }))) (by kernel_rfl) ?_
  refine ⟨hk, hp, brN (brI (fun hB => ?_) (fun hB => pc2_f (pc_val_b hB)))⟩
  refine ⟨hp, hs, hlp, brN (brI (fun hR => ?_) (fun hR => pc2_f (pc_val_r hR)))⟩
  have hb := baseB_iff.1 hB
  have hr := routeB_ok hR
  exact pc2_l ks ps rs hk hp hs hlp hB hb hr _ 0 0 _ _ rfl rfl (by omega) rfl rfl
noncomputable def e_pc2 : CE Try.prog := CE.pure 13 [.ag [.l 50, .l 53], .c (.l 9)] (fun
  | [.ag [.ro 50 ks, .ro 53 ps], .c (.ro 9 rs)] => some ([Shp Try.prog 50 ks, Shp Try.prog 53 ps, Shp Try.prog 9 rs, ps.length ≤ 1048576], .tu [.inl (.sl 0 (cellsR ks ps rs).length), .inl (.v (.bool (cellsB ks ps rs)))], [some (.row true 58 (cellsR ks ps rs))])
  | _ => none) (by
  intro ys q v hp1 h hq
  split at h <;> cases h
  exact pc2_sem _ _ _ hq.1 hq.2.1 hq.2.2.1 hq.2.2.2.1)
end Go.Proofs.Ytekdfddodabfcaa
/- The law FnExactPlanCells, walked. -/
namespace Go.Proofs.Ytekdfddodabfcaa
open Go.RowKit
set_option linter.unusedVariables false
set_option linter.unusedSectionVars false
set_option linter.unusedSimpArgs false
noncomputable def c_mkBase (ks ps : List (List DV)) (k : Int) : FC := mkC Try.prog Try.f16 [0, 1, 2, 4] [0, 1, 2, 4] [] [e_mkKinds, e_mkPoints] 2 [some (.row true 50 (mkRows [.s, .i .i64, .i .i64] ks.length k)), some (.row true 53 (mkRows [.s, .i .i64, .i .i64] ps.length (k + ks.length * 3)))] (iv (k + ks.length * 3 + ps.length * 3))
theorem mkBase_of (ks ps : List (List DV)) (k : Int) (h : (c_mkBase ks ps k).At [] ⟨mkS 14 [(0, .ag [.sl 0 ks.length, .sl 1 ps.length]), (1, iv k)], [some (.row true 50 ks), some (.row true 53 ps)]⟩) : FunSem Try.prog 16 [some (.row true 50 ks), some (.row true 53 ps)] [.ag [.sl 0 ks.length, .sl 1 ps.length], iv k] [some (.row true 50 (mkRows [.s, .i .i64, .i .i64] ks.length k)), some (.row true 53 (mkRows [.s, .i .i64, .i .i64] ps.length (k + ks.length * 3)))] (iv (k + ks.length * 3 + ps.length * 3)) :=
  FC.sem (C := c_mkBase ks ps k) (m := 12) Try.func16 (by kernel_rfl) rfl rfl (by kernel_rfl) rfl rfl h
theorem mkBase_sem (ks ps : List (List DV)) (k : Int) (h1 : Shp Try.prog 50 ks) (h2 : Shp Try.prog 53 ps) (h3 : ks.length ≤ 1048576) (h4 : ps.length ≤ 1048576) (hk : 0 < k) (hk1 : k ≤ 900000000) : FunSem Try.prog 16 [some (.row true 50 ks), some (.row true 53 ps)] [.ag [.sl 0 ks.length, .sl 1 ps.length], iv k] [some (.row true 50 (mkRows [.s, .i .i64, .i .i64] ks.length k)), some (.row true 53 (mkRows [.s, .i .i64, .i .i64] ps.length (k + ks.length * 3)))] (iv (k + ks.length * 3 + ps.length * 3)) := by
  refine mkBase_of ks ps k ?_
  refine FC.ev (by kernel_rfl) 100 (X := List.length ks = List.length ks ∧ Shp Try.prog (50 : Nat) ks ∧ List.length ks ≤ (1048576 : Nat) ∧ (0 : Int) < k ∧ k ≤ (1000000000 : Int) ∧ List.length ps = List.length ps ∧ Shp Try.prog (53 : Nat) ps ∧ List.length ps ≤ (1048576 : Nat) ∧ (0 : Int) < k + (↑(List.length ks) : Int) * (3 : Int) ∧ k + (↑(List.length ks) : Int) * (3 : Int) ≤ (1000000000 : Int) ∧ FC.Fin (c_mkBase ks ps k) (AV.c (CV.v (Value.int IntKind.i64 (k + (↑(List.length ks) : Int) * (3 : Int) + (↑(List.length ps) : Int) * (3 : Int))))) [some (AB.row true (50 : Nat) (mkRows [CS.s, CS.i IntKind.i64, CS.i IntKind.i64] (List.length ks) k)), some (AB.row true (53 : Nat) (mkRows [CS.s, CS.i IntKind.i64, CS.i IntKind.i64] (List.length ps) (k + (↑(List.length ks) : Int) * (3 : Int))))]) (by kernel_rfl) ?_
  repeat' (first | (with_reducible refine And.intro ?_ ?_) | refine brN ?_ | refine brD (fun _ => ?_) (fun _ => ?_) | refine brE (fun _ => ?_) (fun _ => ?_) | refine brEn (fun _ => ?_) (fun _ => ?_) | refine brEb (fun _ => ?_) (fun _ => ?_) | refine brS (fun _ => ?_) (fun _ => ?_) | refine brI (fun _ => ?_) (fun _ => ?_) | omega | exact wrI (by omega) (by omega) | exact h1 | exact h2 | exact finV rfl rfl | fail)
noncomputable def e_mkBase : CE Try.prog := CE.mut 16 [.ag [.h 50, .h 53], .c (.r .x)] (fun
  | [.ag [.sl 0 n1, .sl 1 n2], .c (.v (.int .i64 k))], [some (.row true 50 ks), some (.row true 53 ps)] => some ([n1 = ks.length, n2 = ps.length, Shp Try.prog 50 ks, Shp Try.prog 53 ps, ks.length ≤ 1048576, ps.length ≤ 1048576, 0 < k, k ≤ 900000000], iv (k + ks.length * 3 + ps.length * 3), [some (.row true 50 (mkRows [.s, .i .i64, .i .i64] ks.length k)), some (.row true 53 (mkRows [.s, .i .i64, .i .i64] ps.length (k + ks.length * 3)))])
  | _, _ => none) (by
  intro ys hp0 q v hp1 h hq
  split at h <;> cases h
  exact (by have e := hq; simp only [andL] at e; obtain ⟨rfl, rfl, h1, h2, h3, h4, h5, h6, -⟩ := e; exact mkBase_sem _ _ _ h1 h2 h3 h4 h5 h6))
noncomputable def c_lawC (ks ps rs : List (List DV)) : FC := mkC Try.prog Try.f4 [0, 1, 2, 4, 5, 6, 7, 8, 9, 10, 11, 12, 13, 14, 15, 16] [0, 1, 2, 4, 5, 6, 7, 8, 9, 10, 11, 12, 13, 14, 15, 16, 21, 26, 53, 58, 63, 82, 90, 93, 110, 115, 118] [] [e_szBase, e_szStrs, e_toBase, e_toStrs, e_pc1, e_pc2, e_eqCells, e_eqBase, e_eqStrs, e_mkBase, e_mkStrings, e_mkCells, e_hdCells] 0 [] (bv true)
theorem lawC_of (ks ps rs : List (List DV)) (h : (c_lawC ks ps rs).At [] ⟨mkS 119 [(0, .ag [.ro 72 ks, .ro 74 ps]), (1, .c (.ro 9 rs))], []⟩) : FunSem Try.prog 4 [] [.ag [.ro 72 ks, .ro 74 ps], .c (.ro 9 rs)] [] (bv true) :=
  FC.sem (C := c_lawC ks ps rs) (m := 117) Try.func4 (by kernel_rfl) rfl rfl (by kernel_rfl) rfl rfl h
theorem szB_le {ks ps : List (List DV)} {l : Int} (h : ¬ szB ks ps l < 0) : szB ks ps l ≤ l := by
  unfold szB at h ⊢
  split at h
  · omega
  · split at h
    · omega
    · rename_i h1 h2
      rw [if_neg h1, if_neg h2]
      have a := szS_ok (js := [0]) (ls := ks) (l := l) (by omega)
      have b := szS_ok (js := [0]) (ls := ps) (l := szS [0] ks l) (by omega)
      omega
theorem cellsR_shp (ks ps rs : List (List DV)) : Shp Try.prog 58 (cellsR ks ps rs) := by
  unfold cellsR; split
  · exact cellsN_shp _ _ _
  · exact Shp.nil
theorem cellsR_len (ks ps rs : List (List DV)) : (cellsR ks ps rs).length ≤ 40 := by
  unfold cellsR; split
  · rename_i h
    unfold cellsB at h
    simp only [Bool.and_eq_true, decide_eq_true_eq] at h
    exact h.2
  · simp
theorem lawC_sem (ks ps rs : List (List DV)) (h : BaseB Try.prog 72 74 ks ps) (hs : Shp Try.prog 9 rs) (hB : StrB [0] rs) (hl : rs.length ≤ 9223372036854775807) : FunSem Try.prog 4 [] [.ag [.ro 72 ks, .ro 74 ps], .c (.ro 9 rs)] [] (bv true) := by
  refine lawC_of ks ps rs ?_
  refine FC.ev (by kernel_rfl) 100 (X := BaseB Try.prog (72 : Nat) (74 : Nat) ks ps ∧ (0 : Int) ≤ (1048576 : Int) ∧ (1048576 : Int) ≤ (1048576 : Int) ∧ brP (decide (szB ks ps (1048576 : Int) < (0 : Int))) (FC.Fin (c_lawC ks ps rs) (AV.c (CV.v (Value.bool true))) []) (Shp Try.prog (9 : Nat) rs ∧ StrB [(0 : Nat)] rs ∧ List.length rs ≤ (9223372036854775807 : Nat) ∧ (0 : Int) ≤ szB ks ps (1048576 : Int) ∧ szB ks ps (1048576 : Int) ≤ (1048576 : Int) ∧ brP (decide (szS [(0 : Nat)] rs (szB ks ps (1048576 : Int)) < (0 : Int))) (FC.Fin (c_lawC ks ps rs) (AV.c (CV.v (Value.bool true))) []) (Shp Try.prog (72 : Nat) ks ∧ Shp Try.prog (74 : Nat) ps ∧ List.length ks ≤ (1048576 : Nat) ∧ List.length ps ≤ (1048576 : Nat) ∧ Shp Try.prog (9 : Nat) rs ∧ List.length rs ≤ (1048576 : Nat) ∧ List.length ks = List.length ks ∧ List.length ps = List.length ps ∧ List.length rs = List.length rs ∧ Shp Try.prog (50 : Nat) ks ∧ Shp Try.prog (53 : Nat) ps ∧ Shp Try.prog (9 : Nat) rs ∧ List.length ps ≤ (1048576 : Nat) ∧ Shp Try.prog (72 : Nat) ks ∧ Shp Try.prog (74 : Nat) ps ∧ List.length ks ≤ (1048576 : Nat) ∧ List.length ps ≤ (1048576 : Nat) ∧ Shp Try.prog (9 : Nat) rs ∧ List.length rs ≤ (1048576 : Nat) ∧ List.length ks = List.length ks ∧ List.length ps = List.length ps ∧ List.length rs = List.length rs ∧ Shp Try.prog (50 : Nat) ks ∧ Shp Try.prog (53 : Nat) ps ∧ Shp Try.prog (9 : Nat) rs ∧ List.length ps ≤ (1048576 : Nat) ∧ List.length (cellsR ks ps rs) = List.length (cellsR ks ps rs) ∧ List.length (cellsR ks ps rs) = List.length (cellsR ks ps rs) ∧ cellsR ks ps rs = cellsR ks ps rs ∧ Shp Try.prog (58 : Nat) (cellsR ks ps rs) ∧ List.length (cellsR ks ps rs) ≤ (1048576 : Nat) ∧ brP (!cellsB ks ps rs == cellsB ks ps rs) (FC.Fin (c_lawC ks ps rs) (AV.c (CV.v (Value.bool false))) []) (Shp Try.prog (72 : Nat) ks ∧ Shp Try.prog (74 : Nat) ps ∧ List.length ks ≤ (1048576 : Nat) ∧ List.length ps ≤ (1048576 : Nat) ∧ List.length ks = List.length ks ∧ List.length ps = List.length ps ∧ List.length ks = List.length ks ∧ List.length ps = List.length ps ∧ ks = ks ∧ ps = ps ∧ Shp Try.prog (50 : Nat) ks ∧ Shp Try.prog (53 : Nat) ps ∧ List.length ks ≤ (1048576 : Nat) ∧ List.length ps ≤ (1048576 : Nat) ∧ Shp Try.prog (9 : Nat) rs ∧ List.length rs ≤ (1048576 : Nat) ∧ List.length rs = List.length rs ∧ List.length rs = List.length rs ∧ rs = rs ∧ Shp Try.prog (9 : Nat) rs ∧ List.length rs ≤ (1048576 : Nat) ∧ List.length ks = List.length ks ∧ List.length ps = List.length ps ∧ Shp Try.prog (50 : Nat) ks ∧ Shp Try.prog (53 : Nat) ps ∧ List.length ks ≤ (1048576 : Nat) ∧ List.length ps ≤ (1048576 : Nat) ∧ (0 : Int) < (1 : Int) ∧ (1 : Int) ≤ (900000000 : Int) ∧ List.length rs = List.length rs ∧ Shp Try.prog (9 : Nat) rs ∧ List.length rs ≤ (1048576 : Nat) ∧ (0 : Int) < (1 : Int) + (↑(List.length ks) : Int) * (3 : Int) + (↑(List.length ps) : Int) * (3 : Int) ∧ (1 : Int) + (↑(List.length ks) : Int) * (3 : Int) + (↑(List.length ps) : Int) * (3 : Int) ≤ (1000000000 : Int) ∧ List.length (cellsR ks ps rs) = List.length (cellsR ks ps rs) ∧ List.length (cellsR ks ps rs) = List.length (cellsR ks ps rs) ∧ cellsR ks ps rs = cellsR ks ps rs ∧ Shp Try.prog (58 : Nat) (cellsR ks ps rs) ∧ List.length (cellsR ks ps rs) ≤ (1048576 : Nat) ∧ brP (!cellsB ks ps rs == cellsB ks ps rs) (FC.Fin (c_lawC ks ps rs) (AV.c (CV.v (Value.bool false))) []) (List.length (cellsR ks ps rs) = List.length (cellsR ks ps rs) ∧ Shp Try.prog (58 : Nat) (cellsR ks ps rs) ∧ List.length (cellsR ks ps rs) ≤ (1048576 : Nat) ∧ (0 : Int) < (1 : Int) ∧ (1 : Int) ≤ (1000000000 : Int) ∧ List.length (cellsR ks ps rs) = List.length (mkRows [CS.i IntKind.i64, CS.i IntKind.i64] (List.length (cellsR ks ps rs)) (1 : Int)) ∧ Shp Try.prog (58 : Nat) (mkRows [CS.i IntKind.i64, CS.i IntKind.i64] (List.length (cellsR ks ps rs)) (1 : Int)) ∧ List.length (mkRows [CS.i IntKind.i64, CS.i IntKind.i64] (List.length (cellsR ks ps rs)) (1 : Int)) ≤ (1048576 : Nat) ∧ (0 : Int) < (1 : Int) ∧ (1 : Int) ≤ (1000000000 : Int) ∧ mkRows [CS.i IntKind.i64, CS.i IntKind.i64] (List.length (cellsR ks ps rs)) (1 : Int) = mkRows [CS.i IntKind.i64, CS.i IntKind.i64] (List.length (mkRows [CS.i IntKind.i64, CS.i IntKind.i64] (List.length (cellsR ks ps rs)) (1 : Int))) (1 : Int) ∧ brP ((1 : Int) + (↑(List.length (mkRows [CS.i IntKind.i64, CS.i IntKind.i64] (List.length (cellsR ks ps rs)) (1 : Int))) : Int) * (2 : Int) != (1 : Int) + (↑(List.length (cellsR ks ps rs)) : Int) * (2 : Int)) (FC.Fin (c_lawC ks ps rs) (AV.c (CV.v (Value.bool false))) []) (Shp Try.prog (72 : Nat) ks ∧ Shp Try.prog (74 : Nat) ps ∧ List.length ks ≤ (1048576 : Nat) ∧ List.length ps ≤ (1048576 : Nat) ∧ Shp Try.prog (9 : Nat) rs ∧ List.length rs ≤ (1048576 : Nat) ∧ List.length ks = List.length ks ∧ List.length ps = List.length ps ∧ List.length rs = List.length rs ∧ Shp Try.prog (50 : Nat) ks ∧ Shp Try.prog (53 : Nat) ps ∧ Shp Try.prog (9 : Nat) rs ∧ List.length ps ≤ (1048576 : Nat) ∧ List.length (cellsR ks ps rs) = List.length (cellsR ks ps rs) ∧ List.length (cellsR ks ps rs) = List.length (cellsR ks ps rs) ∧ cellsR ks ps rs = cellsR ks ps rs ∧ Shp Try.prog (58 : Nat) (cellsR ks ps rs) ∧ List.length (cellsR ks ps rs) ≤ (1048576 : Nat) ∧ brP (!cellsB ks ps rs == cellsB ks ps rs) (FC.Fin (c_lawC ks ps rs) (AV.c (CV.v (Value.bool false))) []) (List.length (cellsR ks ps rs) = List.length (mkRows [CS.i IntKind.i64, CS.i IntKind.i64] (List.length (cellsR ks ps rs)) (1 : Int)) ∧ Shp Try.prog (58 : Nat) (mkRows [CS.i IntKind.i64, CS.i IntKind.i64] (List.length (cellsR ks ps rs)) (1 : Int)) ∧ List.length (mkRows [CS.i IntKind.i64, CS.i IntKind.i64] (List.length (cellsR ks ps rs)) (1 : Int)) ≤ (1048576 : Nat) ∧ (0 : Int) < (1 : Int) ∧ (1 : Int) ≤ (1000000000 : Int) ∧ mkRows [CS.i IntKind.i64, CS.i IntKind.i64] (List.length (cellsR ks ps rs)) (1 : Int) = mkRows [CS.i IntKind.i64, CS.i IntKind.i64] (List.length (mkRows [CS.i IntKind.i64, CS.i IntKind.i64] (List.length (cellsR ks ps rs)) (1 : Int))) (1 : Int) ∧ brP ((1 : Int) + (↑(List.length (mkRows [CS.i IntKind.i64, CS.i IntKind.i64] (List.length (cellsR ks ps rs)) (1 : Int))) : Int) * (2 : Int) != (1 : Int) + (↑(List.length (cellsR ks ps rs)) : Int) * (2 : Int)) (FC.Fin (c_lawC ks ps rs) (AV.c (CV.v (Value.bool false))) []) (FC.Fin (c_lawC ks ps rs) (AV.c (CV.v (Value.bool true))) [])))))))) (by kernel_rfl) ?_
  have e1 := @szB_ok ks ps 1048576
  have e2 := szB_le (ks := ks) (ps := ps) (l := 1048576)
  have e3 : ¬ szB ks ps 1048576 < 0 → ¬ szS [0] rs (szB ks ps 1048576) < 0 → (rs.length : Int) ≤ 1048576 := fun h h' => by
    have a := szS_ok (js := [0]) (ls := rs) (l := szB ks ps 1048576) (by omega)
    have := e2 h
    omega
  have b1 := h.sk
  have b2 := h.sp
  have b3 : Shp Try.prog 50 ks := b1.conv
  have b4 : Shp Try.prog 53 ps := b2.conv
  have c1 := cellsR_shp ks ps rs
  have c2 := cellsR_len ks ps rs
  refine ⟨h, by omega, by omega, brD (fun _ => finV rfl rfl) (fun s1 => ⟨hs, hB, hl, by omega, e2 s1, brD (fun _ => finV rfl rfl) (fun s2 => ?_)⟩)⟩
  have l1 := (e1 s1).1
  have l2 := (e1 s1).2
  have l3 := e3 s1 s2
  clear e1 e2 e3
  simp only [mkRows_len]
  repeat' (first | (with_reducible refine And.intro ?_ ?_) | refine brN ?_ | refine brD (fun _ => ?_) (fun _ => ?_) | refine brE (fun _ => ?_) (fun _ => ?_) | refine brEn (fun _ => ?_) (fun _ => ?_) | refine brEb (fun _ => ?_) (fun _ => ?_) | refine brS (fun _ => ?_) (fun _ => ?_) | refine brI (fun _ => ?_) (fun _ => ?_) | omega | exact wrI (by omega) (by omega) | exact b1 | exact b2 | exact b3 | exact b4 | exact hs | exact c1 | rfl | trivial | exact mkCells_shp _ _ | exact finV rfl rfl | exact absurd rfl ‹_› | fail)
end Go.Proofs.Ytekdfddodabfcaa
