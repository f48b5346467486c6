/- Contracts: ranges and names. -/
import Derived.Test.YtekdfddodabfcaaRf
import Derived.Test.YtekdfddodabfcaaRows
namespace Go.Proofs.Ytekdfddodabfcaa
open Go.RowKit
set_option linter.unusedVariables false
set_option linter.unusedSimpArgs false
def rangeB (n lo hi : Int) : Bool := decide (lo ≤ n) && decide (n ≤ hi)
noncomputable def c_in1 (n lo hi : Int) : FC := mkC Try.prog Try.f43 [0, 1, 2, 6] [0, 1, 2, 6] [] [] 0 [] (bv (rangeB n lo hi))
theorem in1_of (n lo hi : Int) (h : (c_in1 n lo hi).At [] ⟨mkS 15 [(0, iv n), (1, iv lo), (2, iv hi)], []⟩) : FunSem Try.prog 43 [] [iv n, iv lo, iv hi] [] (bv (rangeB n lo hi)) :=
  FC.sem (C := c_in1 n lo hi) (m := 12) Try.func43 (by kernel_rfl) rfl rfl (by kernel_rfl) rfl rfl h
theorem in1_sem (n lo hi : Int) : FunSem Try.prog 43 [] [iv n, iv lo, iv hi] [] (bv (rangeB n lo hi)) := by
  refine in1_of n lo hi ?_
  refine FC.ev (by kernel_rfl) 100 (X := brP (decide (n ≥ lo)) (FC.Fin (c_in1 n lo hi) (AV.c (CV.v (Value.bool (decide (n ≤ hi))))) []) (FC.Fin (c_in1 n lo hi) (AV.c (CV.v (Value.bool false))) [])) (by kernel_rfl) ?_
  refine brD (fun h => ⟨bv_eq ?_, rfl⟩) (fun h => ⟨bv_eq ?_, rfl⟩) <;> unfold rangeB
  · simp; omega
  · simp; omega
noncomputable def e_in1 : CE Try.prog := CE.pure 43 [.c .x, .c .x, .c .x] (fun
  | [.c (.v (.int .i64 n)), .c (.v (.int .i64 lo)), .c (.v (.int .i64 hi))] => some ([], bv (rangeB n lo hi), [])
  | _ => none) (by
  intro ys q v hp1 h hq
  split at h <;> cases h
  exact in1_sem _ _ _)
def okc (b : UInt8) : Bool := (decide (97 ≤ b.toNat) && decide (b.toNat ≤ 122)) || (decide (48 ≤ b.toNat) && decide (b.toNat ≤ 57)) || decide (b.toNat = 45)
def nameB (s : ByteArray) : Bool := decide (1 ≤ s.size) && decide (s.size ≤ 8) && s.data.toList.all okc
theorem nameB_false {s : ByteArray} {i : Nat} (h : i < s.size) (hp : okc (bAt s i) = false) : nameB s = false := by
  unfold nameB; rw [allB_false h hp]; simp
noncomputable def c_nm1 (s : ByteArray) : FC := mkC Try.prog Try.f42 [0, 2, 3, 4] [0, 2, 3, 4, 8, 12, 36] [([1, 1, 0, 1, 0], [0, 3])] [e_in1] 0 [] (bv (nameB s))
theorem nm1_of (s : ByteArray) (h : (c_nm1 s).At [] ⟨mkS 37 [(0, sv s)], []⟩) : FunSem Try.prog 42 [] [sv s] [] (bv (nameB s)) :=
  FC.sem (C := c_nm1 s) (m := 36) Try.func42 (by kernel_rfl) rfl rfl (by kernel_rfl) rfl rfl h
theorem nm1_l (s : ByteArray) (h1 : 1 ≤ s.size) (h8 : s.size ≤ 8) : ∀ (m : Nat) (i : Int), m = (s.size - i).toNat → 0 ≤ i → i ≤ s.size → (∀ j : Nat, j < i.toNat → okc (bAt s j) = true) → (c_nm1 s).At [1, 1, 0, 1, 0] ⟨mkS 37 [(0, sv s), (3, iv i)], []⟩ := by
  intro m
  induction m using Nat.strongRecOn with
  | _ m ih =>
    intro i hm h0 hn hall
    refine FC.loopB (by kernel_rfl) (by kernel_rfl) 100 (X := brP (decide (i < (↑(ByteArray.size s) : Int))) (((0 : Int) ≤ i ∧ Int.toNat i < ByteArray.size s) ∧ brP (decide ((↑(UInt8.toNat (bAt s (Int.toNat i))) : Int) ≥ (97 : Int))) (brP (decide ((↑(UInt8.toNat (bAt s (Int.toNat i))) : Int) ≤ (122 : Int))) (IntKind.wrap IntKind.i64 (i + (1 : Int)) = i + (1 : Int) ∧ FC.At (c_nm1 s) [(1 : Nat), (1 : Nat), (0 : Nat), (1 : Nat), (0 : Nat)] { sl := mkS (37 : Nat) [((0 : Nat), AV.c (CV.v (Value.string s))), ((3 : Nat), AV.c (CV.v (Value.int IntKind.i64 (i + (1 : Int)))))], hp := [] }) (brP (decide ((↑(UInt8.toNat (bAt s (Int.toNat i))) : Int) ≥ (48 : Int))) (brP (decide ((↑(UInt8.toNat (bAt s (Int.toNat i))) : Int) ≤ (57 : Int))) (IntKind.wrap IntKind.i64 (i + (1 : Int)) = i + (1 : Int) ∧ FC.At (c_nm1 s) [(1 : Nat), (1 : Nat), (0 : Nat), (1 : Nat), (0 : Nat)] { sl := mkS (37 : Nat) [((0 : Nat), AV.c (CV.v (Value.string s))), ((3 : Nat), AV.c (CV.v (Value.int IntKind.i64 (i + (1 : Int)))))], hp := [] }) (brP (!(↑(UInt8.toNat (bAt s (Int.toNat i))) : Int) == (45 : Int)) (FC.Fin (c_nm1 s) (AV.c (CV.v (Value.bool false))) []) (IntKind.wrap IntKind.i64 (i + (1 : Int)) = i + (1 : Int) ∧ FC.At (c_nm1 s) [(1 : Nat), (1 : Nat), (0 : Nat), (1 : Nat), (0 : Nat)] { sl := mkS (37 : Nat) [((0 : Nat), AV.c (CV.v (Value.string s))), ((3 : Nat), AV.c (CV.v (Value.int IntKind.i64 (i + (1 : Int)))))], hp := [] }))) (brP (!(↑(UInt8.toNat (bAt s (Int.toNat i))) : Int) == (45 : Int)) (FC.Fin (c_nm1 s) (AV.c (CV.v (Value.bool false))) []) (IntKind.wrap IntKind.i64 (i + (1 : Int)) = i + (1 : Int) ∧ FC.At (c_nm1 s) [(1 : Nat), (1 : Nat), (0 : Nat), (1 : Nat), (0 : Nat)] { sl := mkS (37 : Nat) [((0 : Nat), AV.c (CV.v (Value.string s))), ((3 : Nat), AV.c (CV.v (Value.int IntKind.i64 (i + (1 : Int)))))], hp := [] })))) (brP (decide ((↑(UInt8.toNat (bAt s (Int.toNat i))) : Int) ≥ (48 : Int))) (brP (decide ((↑(UInt8.toNat (bAt s (Int.toNat i))) : Int) ≤ (57 : Int))) (IntKind.wrap IntKind.i64 (i + (1 : Int)) = i + (1 : Int) ∧ FC.At (c_nm1 s) [(1 : Nat), (1 : Nat), (0 : Nat), (1 : Nat), (0 : Nat)] { sl := mkS (37 : Nat) [((0 : Nat), AV.c (CV.v (Value.string s))), ((3 : Nat), AV.c (CV.v (Value.int IntKind.i64 (i + (1 : Int)))))], hp := [] }) (brP (!(↑(UInt8.toNat (bAt s (Int.toNat i))) : Int) == (45 : Int)) (FC.Fin (c_nm1 s) (AV.c (CV.v (Value.bool false))) []) (IntKind.wrap IntKind.i64 (i + (1 : Int)) = i + (1 : Int) ∧ FC.At (c_nm1 s) [(1 : Nat), (1 : Nat), (0 : Nat), (1 : Nat), (0 : Nat)] { sl := mkS (37 : Nat) [((0 : Nat), AV.c (CV.v (Value.string s))), ((3 : Nat), AV.c (CV.v (Value.int IntKind.i64 (i + (1 : Int)))))], hp := [] }))) (brP (!(↑(UInt8.toNat (bAt s (Int.toNat i))) : Int) == (45 : Int)) (FC.Fin (c_nm1 s) (AV.c (CV.v (Value.bool false))) []) (IntKind.wrap IntKind.i64 (i + (1 : Int)) = i + (1 : Int) ∧ FC.At (c_nm1 s) [(1 : Nat), (1 : Nat), (0 : Nat), (1 : Nat), (0 : Nat)] { sl := mkS (37 : Nat) [((0 : Nat), AV.c (CV.v (Value.string s))), ((3 : Nat), AV.c (CV.v (Value.int IntKind.i64 (i + (1 : Int)))))], hp := [] })))) (FC.Fin (c_nm1 s) (AV.c (CV.v (Value.bool true))) [])) (by kernel_rfl) ?_
    have next : i < s.size → okc (bAt s i.toNat) = true → (c_nm1 s).At [1, 1, 0, 1, 0] ⟨mkS 37 [(0, sv s), (3, iv (i + 1))], []⟩ := fun h hok =>
      ih (s.size - (i + 1)).toNat (by omega) (i + 1) rfl (by omega) (by omega) fun j hj => by
        by_cases e : j = i.toNat
        · rw [e]; exact hok
        · exact hall j (by omega)
    refine brD (fun h => ⟨⟨h0, by omega⟩, ?_⟩) (fun h => ⟨bv_eq ?_, rfl⟩)
    · have hf : okc (bAt s i.toNat) = false → false = nameB s := fun hf => (nameB_false (by omega) hf).symm
      repeat' (first | refine brD (fun _ => ?_) (fun _ => ?_) | refine brN ?_ | refine brE (fun _ => ?_) (fun _ => ?_) | refine ⟨wrI (by omega) (by omega), next h ?_⟩ | refine finV (bv_eq (hf ?_)) rfl | fail)
      all_goals simp [okc]
      all_goals omega
    · unfold nameB
      rw [allB_iff.2 fun j hj => hall j (by omega)]
      simp [h1, h8]
theorem nm1_sem (s : ByteArray) : FunSem Try.prog 42 [] [sv s] [] (bv (nameB s)) := by
  refine nm1_of s ?_
  refine FC.ev (by kernel_rfl) 100 (X := brP (!rangeB (↑(ByteArray.size s) : Int) (1 : Int) (8 : Int)) (FC.Fin (c_nm1 s) (AV.c (CV.v (Value.bool false))) []) (FC.At (c_nm1 s) [(1 : Nat), (1 : Nat), (0 : Nat), (1 : Nat), (0 : Nat)] { sl := mkS (37 : Nat) [((0 : Nat), AV.c (CV.v (Value.string s))), ((3 : Nat), AV.c (CV.v (Value.int IntKind.i64 (0 : Int))))], hp := [] })) (by kernel_rfl) ?_
  refine brN (brI (fun h => ?_) (fun h => finV (bv_eq ?_) rfl))
  · simp [rangeB] at h
    exact nm1_l s (by omega) (by omega) _ 0 rfl (by omega) (by omega) (by omega)
  · simp [rangeB] at h
    simp [nameB]; omega
noncomputable def e_nm1 : CE Try.prog := CE.pure 42 [.c .x] (fun
  | [.c (.v (.string s))] => some ([], bv (nameB s), [])
  | _ => none) (by
  intro ys q v hp1 h hq
  split at h <;> cases h
  exact nm1_sem _)
/-! The program's own. -/
noncomputable def c_in2 (n lo hi : Int) : FC := mkC Try.prog Try.f47 [0, 1, 2, 6] [0, 1, 2, 6] [] [] 0 [] (bv (rangeB n lo hi))
theorem in2_of (n lo hi : Int) (h : (c_in2 n lo hi).At [] ⟨mkS 15 [(0, iv n), (1, iv lo), (2, iv hi)], []⟩) : FunSem Try.prog 47 [] [iv n, iv lo, iv hi] [] (bv (rangeB n lo hi)) :=
  FC.sem (C := c_in2 n lo hi) (m := 12) Try.func47 (by kernel_rfl) rfl rfl (by kernel_rfl) rfl rfl h
theorem in2_sem (n lo hi : Int) : FunSem Try.prog 47 [] [iv n, iv lo, iv hi] [] (bv (rangeB n lo hi)) := by
  refine in2_of n lo hi ?_
  refine FC.ev (by kernel_rfl) 100 (X := brP (decide (n ≥ lo)) (FC.Fin (c_in2 n lo hi) (AV.c (CV.v (Value.bool (decide (n ≤ hi))))) []) (FC.Fin (c_in2 n lo hi) (AV.c (CV.v (Value.bool false))) [])) (by kernel_rfl) ?_
  refine brD (fun h => ⟨bv_eq ?_, rfl⟩) (fun h => ⟨bv_eq ?_, rfl⟩) <;> unfold rangeB
  · simp; omega
  · simp; omega
noncomputable def e_in2 : CE Try.prog := CE.pure 47 [.c .x, .c .x, .c .x] (fun
  | [.c (.v (.int .i64 n)), .c (.v (.int .i64 lo)), .c (.v (.int .i64 hi))] => some ([], bv (rangeB n lo hi), [])
  | _ => none) (by
  intro ys q v hp1 h hq
  split at h <;> cases h
  exact in2_sem _ _ _)
noncomputable def c_nm2 (s : ByteArray) : FC := mkC Try.prog Try.f46 [0, 2, 3, 4] [0, 2, 3, 4, 8, 12, 36] [([1, 1, 0, 1, 0], [0, 3])] [e_in2] 0 [] (bv (nameB s))
theorem nm2_of (s : ByteArray) (h : (c_nm2 s).At [] ⟨mkS 37 [(0, sv s)], []⟩) : FunSem Try.prog 46 [] [sv s] [] (bv (nameB s)) :=
  FC.sem (C := c_nm2 s) (m := 36) Try.func46 (by kernel_rfl) rfl rfl (by kernel_rfl) rfl rfl h
theorem nm2_l (s : ByteArray) (h1 : 1 ≤ s.size) (h8 : s.size ≤ 8) : ∀ (m : Nat) (i : Int), m = (s.size - i).toNat → 0 ≤ i → i ≤ s.size → (∀ j : Nat, j < i.toNat → okc (bAt s j) = true) → (c_nm2 s).At [1, 1, 0, 1, 0] ⟨mkS 37 [(0, sv s), (3, iv i)], []⟩ := by
  intro m
  induction m using Nat.strongRecOn with
  | _ m ih =>
    intro i hm h0 hn hall
    refine FC.loopB (by kernel_rfl) (by kernel_rfl) 100 (X := brP (decide (i < (↑(ByteArray.size s) : Int))) (((0 : Int) ≤ i ∧ Int.toNat i < ByteArray.size s) ∧ brP (decide ((↑(UInt8.toNat (bAt s (Int.toNat i))) : Int) ≥ (97 : Int))) (brP (decide ((↑(UInt8.toNat (bAt s (Int.toNat i))) : Int) ≤ (122 : Int))) (IntKind.wrap IntKind.i64 (i + (1 : Int)) = i + (1 : Int) ∧ FC.At (c_nm2 s) [(1 : Nat), (1 : Nat), (0 : Nat), (1 : Nat), (0 : Nat)] { sl := mkS (37 : Nat) [((0 : Nat), AV.c (CV.v (Value.string s))), ((3 : Nat), AV.c (CV.v (Value.int IntKind.i64 (i + (1 : Int)))))], hp := [] }) (brP (decide ((↑(UInt8.toNat (bAt s (Int.toNat i))) : Int) ≥ (48 : Int))) (brP (decide ((↑(UInt8.toNat (bAt s (Int.toNat i))) : Int) ≤ (57 : Int))) (IntKind.wrap IntKind.i64 (i + (1 : Int)) = i + (1 : Int) ∧ FC.At (c_nm2 s) [(1 : Nat), (1 : Nat), (0 : Nat), (1 : Nat), (0 : Nat)] { sl := mkS (37 : Nat) [((0 : Nat), AV.c (CV.v (Value.string s))), ((3 : Nat), AV.c (CV.v (Value.int IntKind.i64 (i + (1 : Int)))))], hp := [] }) (brP (!(↑(UInt8.toNat (bAt s (Int.toNat i))) : Int) == (45 : Int)) (FC.Fin (c_nm2 s) (AV.c (CV.v (Value.bool false))) []) (IntKind.wrap IntKind.i64 (i + (1 : Int)) = i + (1 : Int) ∧ FC.At (c_nm2 s) [(1 : Nat), (1 : Nat), (0 : Nat), (1 : Nat), (0 : Nat)] { sl := mkS (37 : Nat) [((0 : Nat), AV.c (CV.v (Value.string s))), ((3 : Nat), AV.c (CV.v (Value.int IntKind.i64 (i + (1 : Int)))))], hp := [] }))) (brP (!(↑(UInt8.toNat (bAt s (Int.toNat i))) : Int) == (45 : Int)) (FC.Fin (c_nm2 s) (AV.c (CV.v (Value.bool false))) []) (IntKind.wrap IntKind.i64 (i + (1 : Int)) = i + (1 : Int) ∧ FC.At (c_nm2 s) [(1 : Nat), (1 : Nat), (0 : Nat), (1 : Nat), (0 : Nat)] { sl := mkS (37 : Nat) [((0 : Nat), AV.c (CV.v (Value.string s))), ((3 : Nat), AV.c (CV.v (Value.int IntKind.i64 (i + (1 : Int)))))], hp := [] })))) (brP (decide ((↑(UInt8.toNat (bAt s (Int.toNat i))) : Int) ≥ (48 : Int))) (brP (decide ((↑(UInt8.toNat (bAt s (Int.toNat i))) : Int) ≤ (57 : Int))) (IntKind.wrap IntKind.i64 (i + (1 : Int)) = i + (1 : Int) ∧ FC.At (c_nm2 s) [(1 : Nat), (1 : Nat), (0 : Nat), (1 : Nat), (0 : Nat)] { sl := mkS (37 : Nat) [((0 : Nat), AV.c (CV.v (Value.string s))), ((3 : Nat), AV.c (CV.v (Value.int IntKind.i64 (i + (1 : Int)))))], hp := [] }) (brP (!(↑(UInt8.toNat (bAt s (Int.toNat i))) : Int) == (45 : Int)) (FC.Fin (c_nm2 s) (AV.c (CV.v (Value.bool false))) []) (IntKind.wrap IntKind.i64 (i + (1 : Int)) = i + (1 : Int) ∧ FC.At (c_nm2 s) [(1 : Nat), (1 : Nat), (0 : Nat), (1 : Nat), (0 : Nat)] { sl := mkS (37 : Nat) [((0 : Nat), AV.c (CV.v (Value.string s))), ((3 : Nat), AV.c (CV.v (Value.int IntKind.i64 (i + (1 : Int)))))], hp := [] }))) (brP (!(↑(UInt8.toNat (bAt s (Int.toNat i))) : Int) == (45 : Int)) (FC.Fin (c_nm2 s) (AV.c (CV.v (Value.bool false))) []) (IntKind.wrap IntKind.i64 (i + (1 : Int)) = i + (1 : Int) ∧ FC.At (c_nm2 s) [(1 : Nat), (1 : Nat), (0 : Nat), (1 : Nat), (0 : Nat)] { sl := mkS (37 : Nat) [((0 : Nat), AV.c (CV.v (Value.string s))), ((3 : Nat), AV.c (CV.v (Value.int IntKind.i64 (i + (1 : Int)))))], hp := [] })))) (FC.Fin (c_nm2 s) (AV.c (CV.v (Value.bool true))) [])) (by kernel_rfl) ?_
    have next : i < s.size → okc (bAt s i.toNat) = true → (c_nm2 s).At [1, 1, 0, 1, 0] ⟨mkS 37 [(0, sv s), (3, iv (i + 1))], []⟩ := fun h hok =>
      ih (s.size - (i + 1)).toNat (by omega) (i + 1) rfl (by omega) (by omega) fun j hj => by
        by_cases e : j = i.toNat
        · rw [e]; exact hok
        · exact hall j (by omega)
    refine brD (fun h => ⟨⟨h0, by omega⟩, ?_⟩) (fun h => ⟨bv_eq ?_, rfl⟩)
    · have hf : okc (bAt s i.toNat) = false → false = nameB s := fun hf => (nameB_false (by omega) hf).symm
      repeat' (first | refine brD (fun _ => ?_) (fun _ => ?_) | refine brN ?_ | refine brE (fun _ => ?_) (fun _ => ?_) | refine ⟨wrI (by omega) (by omega), next h ?_⟩ | refine finV (bv_eq (hf ?_)) rfl | fail)
      all_goals simp [okc]
      all_goals omega
    · unfold nameB
      rw [allB_iff.2 fun j hj => hall j (by omega)]
      simp [h1, h8]
theorem nm2_sem (s : ByteArray) : FunSem Try.prog 46 [] [sv s] [] (bv (nameB s)) := by
  refine nm2_of s ?_
  refine FC.ev (by kernel_rfl) 100 (X := brP (!rangeB (↑(ByteArray.size s) : Int) (1 : Int) (8 : Int)) (FC.Fin (c_nm2 s) (AV.c (CV.v (Value.bool false))) []) (FC.At (c_nm2 s) [(1 : Nat), (1 : Nat), (0 : Nat), (1 : Nat), (0 : Nat)] { sl := mkS (37 : Nat) [((0 : Nat), AV.c (CV.v (Value.string s))), ((3 : Nat), AV.c (CV.v (Value.int IntKind.i64 (0 : Int))))], hp := [] })) (by kernel_rfl) ?_
  refine brN (brI (fun h => ?_) (fun h => finV (bv_eq ?_) rfl))
  · simp [rangeB] at h
    exact nm2_l s (by omega) (by omega) _ 0 rfl (by omega) (by omega) (by omega)
  · simp [rangeB] at h
    simp [nameB]; omega
noncomputable def e_nm2 : CE Try.prog := CE.pure 46 [.c .x] (fun
  | [.c (.v (.string s))] => some ([], bv (nameB s), [])
  | _ => none) (by
  intro ys q v hp1 h hq
  split at h <;> cases h
  exact nm2_sem _)
end Go.Proofs.Ytekdfddodabfcaa
/- Contracts: kinds, points, bases (the reference's). -/
namespace Go.Proofs.Ytekdfddodabfcaa
open Go.RowKit
set_option linter.unusedVariables false
set_option linter.unusedSectionVars false
set_option linter.unusedSimpArgs false
def kindB (nm : ByteArray) (q s : Int) : Bool := nameB nm && rangeB q 1 s && decide (s ≤ 50)
noncomputable def c_kd1 (nm : ByteArray) (q s : Int) : FC := mkC Try.prog Try.f22 [0, 1, 2] [0, 1, 2] [] [e_nm1, e_in1] 0 [] (bv (kindB nm q s))
theorem kd1_of (nm : ByteArray) (q s : Int) (h : (c_kd1 nm q s).At [] ⟨mkS 18 [(0, .ag [.v (.string nm), .v (.int .i64 q), .v (.int .i64 s)])], []⟩) : FunSem Try.prog 22 [] [.ag [.v (.string nm), .v (.int .i64 q), .v (.int .i64 s)]] [] (bv (kindB nm q s)) :=
  FC.sem (C := c_kd1 nm q s) (m := 17) Try.func22 (by kernel_rfl) rfl rfl (by kernel_rfl) rfl rfl h
theorem kd1_sem (nm : ByteArray) (q s : Int) : FunSem Try.prog 22 [] [.ag [.v (.string nm), .v (.int .i64 q), .v (.int .i64 s)]] [] (bv (kindB nm q s)) := by
  refine kd1_of nm q s ?_
  refine FC.ev (by kernel_rfl) 100 (X := brP (nameB nm) (brP (rangeB q (1 : Int) s) (FC.Fin (c_kd1 nm q s) (AV.c (CV.v (Value.bool (decide (s ≤ (50 : Int)))))) []) (FC.Fin (c_kd1 nm q s) (AV.c (CV.v (Value.bool false))) [])) (FC.Fin (c_kd1 nm q s) (AV.c (CV.v (Value.bool false))) [])) (by kernel_rfl) ?_
  refine brI (fun h1 => brI (fun h2 => finV (bv_eq ?_) rfl) (fun h2 => finV (bv_eq ?_) rfl)) (fun h1 => finV (bv_eq ?_) rfl) <;> simp [kindB, h1] <;> simp [h2]
noncomputable def e_kd1 : CE Try.prog := CE.pure 22 [.ag [.x, .x, .x]] (fun
  | [.ag [.v (.string nm), .v (.int .i64 q), .v (.int .i64 s)]] => some ([], bv (kindB nm q s), [])
  | _ => none) (by
  intro ys q v hp1 h hq
  split at h <;> cases h
  exact kd1_sem _ _ _)
def pointB (nm : ByteArray) (x y : Int) : Bool := nameB nm && rangeB x 0 15 && rangeB y 0 15
noncomputable def c_pt1 (nm : ByteArray) (q s : Int) : FC := mkC Try.prog Try.f23 [0, 1, 2] [0, 1, 2] [] [e_nm1, e_in1] 0 [] (bv (pointB nm q s))
theorem pt1_of (nm : ByteArray) (q s : Int) (h : (c_pt1 nm q s).At [] ⟨mkS 16 [(0, .ag [.v (.string nm), .v (.int .i64 q), .v (.int .i64 s)])], []⟩) : FunSem Try.prog 23 [] [.ag [.v (.string nm), .v (.int .i64 q), .v (.int .i64 s)]] [] (bv (pointB nm q s)) :=
  FC.sem (C := c_pt1 nm q s) (m := 15) Try.func23 (by kernel_rfl) rfl rfl (by kernel_rfl) rfl rfl h
theorem pt1_sem (nm : ByteArray) (q s : Int) : FunSem Try.prog 23 [] [.ag [.v (.string nm), .v (.int .i64 q), .v (.int .i64 s)]] [] (bv (pointB nm q s)) := by
  refine pt1_of nm q s ?_
  refine FC.ev (by kernel_rfl) 100 (X := brP (nameB nm) (brP (rangeB q (0 : Int) (15 : Int)) (FC.Fin (c_pt1 nm q s) (AV.c (CV.v (Value.bool (rangeB s (0 : Int) (15 : Int))))) []) (FC.Fin (c_pt1 nm q s) (AV.c (CV.v (Value.bool false))) [])) (FC.Fin (c_pt1 nm q s) (AV.c (CV.v (Value.bool false))) [])) (by kernel_rfl) ?_
  refine brI (fun h1 => brI (fun h2 => finV (bv_eq ?_) rfl) (fun h2 => finV (bv_eq ?_) rfl)) (fun h1 => finV (bv_eq ?_) rfl) <;> simp [pointB, h1] <;> simp [h2]
noncomputable def e_pt1 : CE Try.prog := CE.pure 23 [.ag [.x, .x, .x]] (fun
  | [.ag [.v (.string nm), .v (.int .i64 q), .v (.int .i64 s)]] => some ([], bv (pointB nm q s), [])
  | _ => none) (by
  intro ys q v hp1 h hq
  split at h <;> cases h
  exact pt1_sem _ _ _)
/-! Bases, as rows of raw cells. -/
def KOk (ks : List (List DV)) (i : Nat) : Prop := kindB (cS ks i 0) (cI ks i 1) (cI ks i 2) = true ∧ (0 < i → Op.bytesLess (cS ks (i - 1) 0).toList (cS ks i 0).toList = true)
def POk (ps : List (List DV)) (i : Nat) : Prop := pointB (cS ps i 0) (cI ps i 1) (cI ps i 2) = true ∧ (0 < i → Op.bytesLess (cS ps (i - 1) 0).toList (cS ps i 0).toList = true) ∧ ∀ k, k < i → ¬ (cI ps k 1 = cI ps i 1 ∧ cI ps k 2 = cI ps i 2)
structure BaseOk (ks ps : List (List DV)) : Prop where
  h6 : ks.length ≤ 6
  h16 : ps.length ≤ 16
  k : ∀ i, i < ks.length → KOk ks i
  p : ∀ i, i < ps.length → POk ps i
open Classical in
noncomputable def baseB (ks ps : List (List DV)) : Bool := decide (BaseOk ks ps)
theorem baseB_f {ks ps : List (List DV)} (h : ¬ BaseOk ks ps) : false = baseB ks ps := by simp [baseB, h]
theorem baseB_t {ks ps : List (List DV)} (h : BaseOk ks ps) : true = baseB ks ps := by simp [baseB, h]
theorem baseB_iff {ks ps : List (List DV)} : baseB ks ps = true ↔ BaseOk ks ps := by simp [baseB]
noncomputable def c_bo1 (ks ps : List (List DV)) : FC := mkC Try.prog Try.f6 [0, 1, 2, 3, 4, 5] [0, 1, 2, 3, 4, 5, 15, 20, 49, 54, 83, 86, 116] [([1, 1, 0, 1, 0], [1, 3]), ([1, 1, 1, 0, 1, 0], [1, 4]), ([1, 1, 1, 0, 1, 0, 0, 1, 0, 0, 1, 1, 0], [1, 4, 5])] [e_kd1, e_pt1] 0 [] (bv (baseB ks ps))
theorem bo1_of (ks ps : List (List DV)) (h : (c_bo1 ks ps).At [] ⟨mkS 117 [(0, .ag [.ro 50 ks, .ro 53 ps])], []⟩) : FunSem Try.prog 6 [] [.ag [.ro 50 ks, .ro 53 ps]] [] (bv (baseB ks ps)) :=
  FC.sem (C := c_bo1 ks ps) (m := 116) Try.func6 (by kernel_rfl) rfl rfl (by kernel_rfl) rfl rfl h
section
variable {ks ps : List (List DV)}
theorem bo1_f (h : ¬ BaseOk ks ps) : (c_bo1 ks ps).Fin (bv false) [] := finV (bv_eq (baseB_f h)) rfl
variable (hk : Shp Try.prog 50 ks) (hp : Shp Try.prog 53 ps)
include hk hp
theorem bo1_l3 (i : Int) (h0 : 0 ≤ i) (hi : i < ps.length) (h16 : ps.length ≤ 16)
    (next : (∀ k : Nat, k < i.toNat → ¬ (cI ps k 1 = cI ps i.toNat 1 ∧ cI ps k 2 = cI ps i.toNat 2)) → (c_bo1 ks ps).At [1, 1, 1, 0, 1, 0] ⟨mkS 117 [(1, .c (.pt 0 0)), (4, iv (i + 1))], [some (.var 31 [.ro 50 ks, .ro 53 ps])]⟩) :
    ∀ (m : Nat) (k : Int), m = (i - k).toNat → 0 ≤ k → k ≤ i → (∀ j : Nat, j < k.toNat → ¬ (cI ps j 1 = cI ps i.toNat 1 ∧ cI ps j 2 = cI ps i.toNat 2)) →
    (c_bo1 ks ps).At [1, 1, 1, 0, 1, 0, 0, 1, 0, 0, 1, 1, 0] ⟨mkS 117 [(1, .c (.pt 0 0)), (4, iv i), (5, iv k)], [some (.var 31 [.ro 50 ks, .ro 53 ps])]⟩ := by
  intro m
  induction m using Nat.strongRecOn with
  | _ m ih =>
    intro k hm hk0 hki hP
    refine FC.loopB (by kernel_rfl) (by kernel_rfl) 100 (X := brP (decide (k < i)) ((0 : Int) ≤ k ∧ El Try.prog (53 : Nat) ps (Int.toNat k) ∧ (0 : Int) ≤ i ∧ El Try.prog (53 : Nat) ps (Int.toNat i) ∧ brP (cI ps (Int.toNat k) (1 : Nat) == cI ps (Int.toNat i) (1 : Nat)) ((0 : Int) ≤ k ∧ El Try.prog (53 : Nat) ps (Int.toNat k) ∧ (0 : Int) ≤ i ∧ El Try.prog (53 : Nat) ps (Int.toNat i) ∧ brP (cI ps (Int.toNat k) (2 : Nat) == cI ps (Int.toNat i) (2 : Nat)) (FC.Fin (c_bo1 ks ps) (AV.c (CV.v (Value.bool false))) []) (IntKind.wrap IntKind.i64 (k + (1 : Int)) = k + (1 : Int) ∧ FC.At (c_bo1 ks ps) [(1 : Nat), (1 : Nat), (1 : Nat), (0 : Nat), (1 : Nat), (0 : Nat), (0 : Nat), (1 : Nat), (0 : Nat), (0 : Nat), (1 : Nat), (1 : Nat), (0 : Nat)] { sl := mkS (117 : Nat) [((1 : Nat), AV.c (CV.pt (0 : Nat) (0 : Nat))), ((4 : Nat), AV.c (CV.v (Value.int IntKind.i64 i))), ((5 : Nat), AV.c (CV.v (Value.int IntKind.i64 (k + (1 : Int)))))], hp := [some (AB.var (31 : Nat) [CV.ro (50 : Nat) ks, CV.ro (53 : Nat) ps])] })) (IntKind.wrap IntKind.i64 (k + (1 : Int)) = k + (1 : Int) ∧ FC.At (c_bo1 ks ps) [(1 : Nat), (1 : Nat), (1 : Nat), (0 : Nat), (1 : Nat), (0 : Nat), (0 : Nat), (1 : Nat), (0 : Nat), (0 : Nat), (1 : Nat), (1 : Nat), (0 : Nat)] { sl := mkS (117 : Nat) [((1 : Nat), AV.c (CV.pt (0 : Nat) (0 : Nat))), ((4 : Nat), AV.c (CV.v (Value.int IntKind.i64 i))), ((5 : Nat), AV.c (CV.v (Value.int IntKind.i64 (k + (1 : Int)))))], hp := [some (AB.var (31 : Nat) [CV.ro (50 : Nat) ks, CV.ro (53 : Nat) ps])] })) (IntKind.wrap IntKind.i64 (i + (1 : Int)) = i + (1 : Int) ∧ FC.At (c_bo1 ks ps) [(1 : Nat), (1 : Nat), (1 : Nat), (0 : Nat), (1 : Nat), (0 : Nat)] { sl := mkS (117 : Nat) [((1 : Nat), AV.c (CV.pt (0 : Nat) (0 : Nat))), ((4 : Nat), AV.c (CV.v (Value.int IntKind.i64 (i + (1 : Int)))))], hp := [some (AB.var (31 : Nat) [CV.ro (50 : Nat) ks, CV.ro (53 : Nat) ps])] })) (by kernel_rfl) ?_
    have step : k < i → ¬ (cI ps k.toNat 1 = cI ps i.toNat 1 ∧ cI ps k.toNat 2 = cI ps i.toNat 2) → (c_bo1 ks ps).At [1, 1, 1, 0, 1, 0, 0, 1, 0, 0, 1, 1, 0] ⟨mkS 117 [(1, .c (.pt 0 0)), (4, iv i), (5, iv (k + 1))], [some (.var 31 [.ro 50 ks, .ro 53 ps])]⟩ := fun hlt h =>
      ih (i - (k + 1)).toNat (by omega) (k + 1) rfl (by omega) (by omega) fun j hj => by
        by_cases e : j = k.toNat
        · rw [e]; exact h
        · exact hP j (by omega)
    repeat' (first | (with_reducible refine And.intro ?_ ?_) | refine brN ?_ | refine brD (fun _ => ?_) (fun _ => ?_) | refine brE (fun _ => ?_) (fun _ => ?_) | refine brEn (fun _ => ?_) (fun _ => ?_) | refine brEb (fun _ => ?_) (fun _ => ?_) | refine brS (fun _ => ?_) (fun _ => ?_) | refine brI (fun _ => ?_) (fun _ => ?_) | omega | exact wrI (by omega) (by omega) | exact hp.el (by omega) | exact step ‹_› (fun h => absurd h.1 ‹_›) | exact step ‹_› (fun h => absurd h.2 ‹_›) | exact bo1_f (fun hb => (hb.p i.toNat (by omega)).2.2 k.toNat (by omega) ⟨‹_›, ‹_›⟩) | exact next (fun j hj => hP j (by omega)) | fail)
theorem bo1_l2 (h6 : ks.length ≤ 6) (h16 : ps.length ≤ 16) : ∀ (m : Nat) (i : Int), m = (ps.length - i).toNat → 0 ≤ i → i ≤ ps.length → (∀ j, j < ks.length → KOk ks j) → (∀ j, j < i.toNat → POk ps j) →
    (c_bo1 ks ps).At [1, 1, 1, 0, 1, 0] ⟨mkS 117 [(1, .c (.pt 0 0)), (4, iv i)], [some (.var 31 [.ro 50 ks, .ro 53 ps])]⟩ := by
  intro m
  induction m using Nat.strongRecOn with
  | _ m ih =>
    intro i hm h0 hn hK hP
    refine FC.loopB (by kernel_rfl) (by kernel_rfl) 100 (X := brP (decide (i < (↑(List.length ps) : Int))) ((0 : Int) ≤ i ∧ El Try.prog (53 : Nat) ps (Int.toNat i) ∧ brP (!pointB (cS ps (Int.toNat i) (0 : Nat)) (cI ps (Int.toNat i) (1 : Nat)) (cI ps (Int.toNat i) (2 : Nat))) (FC.Fin (c_bo1 ks ps) (AV.c (CV.v (Value.bool false))) []) (brP (decide (i > (0 : Int))) (IntKind.wrap IntKind.i64 (i - (1 : Int)) = i - (1 : Int) ∧ (0 : Int) ≤ i - (1 : Int) ∧ El Try.prog (53 : Nat) ps (Int.toNat (i - (1 : Int))) ∧ (0 : Int) ≤ i ∧ El Try.prog (53 : Nat) ps (Int.toNat i) ∧ brP (!Op.bytesLess (ByteArray.toList (cS ps (Int.toNat (i - (1 : Int))) (0 : Nat))) (ByteArray.toList (cS ps (Int.toNat i) (0 : Nat)))) (FC.Fin (c_bo1 ks ps) (AV.c (CV.v (Value.bool false))) []) (FC.At (c_bo1 ks ps) [(1 : Nat), (1 : Nat), (1 : Nat), (0 : Nat), (1 : Nat), (0 : Nat), (0 : Nat), (1 : Nat), (0 : Nat), (0 : Nat), (1 : Nat), (1 : Nat), (0 : Nat)] { sl := mkS (117 : Nat) [((1 : Nat), AV.c (CV.pt (0 : Nat) (0 : Nat))), ((4 : Nat), AV.c (CV.v (Value.int IntKind.i64 i))), ((5 : Nat), AV.c (CV.v (Value.int IntKind.i64 (0 : Int))))], hp := [some (AB.var (31 : Nat) [CV.ro (50 : Nat) ks, CV.ro (53 : Nat) ps])] })) (FC.At (c_bo1 ks ps) [(1 : Nat), (1 : Nat), (1 : Nat), (0 : Nat), (1 : Nat), (0 : Nat), (0 : Nat), (1 : Nat), (0 : Nat), (0 : Nat), (1 : Nat), (1 : Nat), (0 : Nat)] { sl := mkS (117 : Nat) [((1 : Nat), AV.c (CV.pt (0 : Nat) (0 : Nat))), ((4 : Nat), AV.c (CV.v (Value.int IntKind.i64 i))), ((5 : Nat), AV.c (CV.v (Value.int IntKind.i64 (0 : Int))))], hp := [some (AB.var (31 : Nat) [CV.ro (50 : Nat) ks, CV.ro (53 : Nat) ps])] }))) (FC.Fin (c_bo1 ks ps) (AV.c (CV.v (Value.bool true))) [])) (by kernel_rfl) ?_
    have e1 : (i - 1).toNat = i.toNat - 1 := by omega
    rw [e1]
    have next : i < ps.length → pointB (cS ps i.toNat 0) (cI ps i.toNat 1) (cI ps i.toNat 2) = true → (0 < i.toNat → Op.bytesLess (cS ps (i.toNat - 1) 0).toList (cS ps i.toNat 0).toList = true) →
        (c_bo1 ks ps).At [1, 1, 1, 0, 1, 0, 0, 1, 0, 0, 1, 1, 0] ⟨mkS 117 [(1, .c (.pt 0 0)), (4, iv i), (5, iv 0)], [some (.var 31 [.ro 50 ks, .ro 53 ps])]⟩ := fun hlt h1 h2 =>
      bo1_l3 hk hp i h0 hlt h16 (fun h3 => ih (ps.length - (i + 1)).toNat (by omega) (i + 1) rfl (by omega) (by omega) hK fun j hj => by
        by_cases e : j = i.toNat
        · rw [e]; exact ⟨h1, h2, h3⟩
        · exact hP j (by omega)) _ 0 rfl (by omega) (by omega) (fun j hj => by omega)
    repeat' (first | (with_reducible refine And.intro ?_ ?_) | refine brN ?_ | refine brD (fun _ => ?_) (fun _ => ?_) | refine brE (fun _ => ?_) (fun _ => ?_) | refine brEn (fun _ => ?_) (fun _ => ?_) | refine brEb (fun _ => ?_) (fun _ => ?_) | refine brS (fun _ => ?_) (fun _ => ?_) | refine brI (fun _ => ?_) (fun _ => ?_) | omega | exact wrI (by omega) (by omega) | exact hp.el (by omega) | exact next ‹_› ‹_› (fun _ => ‹_›) | exact next ‹_› ‹_› (fun _ => by omega) | exact bo1_f (fun hb => tf ((hb.p i.toNat (by omega)).1) ‹_›) | exact bo1_f (fun hb => tf ((hb.p i.toNat (by omega)).2.1 (by omega)) ‹_›) | exact finV (bv_eq (baseB_t ⟨h6, h16, hK, fun j hj => hP j (by omega)⟩)) rfl | fail)
theorem bo1_l1 (h6 : ks.length ≤ 6) (h16 : ps.length ≤ 16) : ∀ (m : Nat) (i : Int), m = (ks.length - i).toNat → 0 ≤ i → i ≤ ks.length → (∀ j, j < i.toNat → KOk ks j) →
    (c_bo1 ks ps).At [1, 1, 0, 1, 0] ⟨mkS 117 [(1, .c (.pt 0 0)), (3, iv i)], [some (.var 31 [.ro 50 ks, .ro 53 ps])]⟩ := by
  intro m
  induction m using Nat.strongRecOn with
  | _ m ih =>
    intro i hm h0 hn hK
    refine FC.loopB (by kernel_rfl) (by kernel_rfl) 100 (X := brP (decide (i < (↑(List.length ks) : Int))) ((0 : Int) ≤ i ∧ El Try.prog (50 : Nat) ks (Int.toNat i) ∧ brP (!kindB (cS ks (Int.toNat i) (0 : Nat)) (cI ks (Int.toNat i) (1 : Nat)) (cI ks (Int.toNat i) (2 : Nat))) (FC.Fin (c_bo1 ks ps) (AV.c (CV.v (Value.bool false))) []) (brP (decide (i > (0 : Int))) (IntKind.wrap IntKind.i64 (i - (1 : Int)) = i - (1 : Int) ∧ (0 : Int) ≤ i - (1 : Int) ∧ El Try.prog (50 : Nat) ks (Int.toNat (i - (1 : Int))) ∧ (0 : Int) ≤ i ∧ El Try.prog (50 : Nat) ks (Int.toNat i) ∧ brP (!Op.bytesLess (ByteArray.toList (cS ks (Int.toNat (i - (1 : Int))) (0 : Nat))) (ByteArray.toList (cS ks (Int.toNat i) (0 : Nat)))) (FC.Fin (c_bo1 ks ps) (AV.c (CV.v (Value.bool false))) []) (IntKind.wrap IntKind.i64 (i + (1 : Int)) = i + (1 : Int) ∧ FC.At (c_bo1 ks ps) [(1 : Nat), (1 : Nat), (0 : Nat), (1 : Nat), (0 : Nat)] { sl := mkS (117 : Nat) [((1 : Nat), AV.c (CV.pt (0 : Nat) (0 : Nat))), ((3 : Nat), AV.c (CV.v (Value.int IntKind.i64 (i + (1 : Int)))))], hp := [some (AB.var (31 : Nat) [CV.ro (50 : Nat) ks, CV.ro (53 : Nat) ps])] })) (IntKind.wrap IntKind.i64 (i + (1 : Int)) = i + (1 : Int) ∧ FC.At (c_bo1 ks ps) [(1 : Nat), (1 : Nat), (0 : Nat), (1 : Nat), (0 : Nat)] { sl := mkS (117 : Nat) [((1 : Nat), AV.c (CV.pt (0 : Nat) (0 : Nat))), ((3 : Nat), AV.c (CV.v (Value.int IntKind.i64 (i + (1 : Int)))))], hp := [some (AB.var (31 : Nat) [CV.ro (50 : Nat) ks, CV.ro (53 : Nat) ps])] }))) (FC.At (c_bo1 ks ps) [(1 : Nat), (1 : Nat), (1 : Nat), (0 : Nat), (1 : Nat), (0 : Nat)] { sl := mkS (117 : Nat) [((1 : Nat), AV.c (CV.pt (0 : Nat) (0 : Nat))), ((4 : Nat), AV.c (CV.v (Value.int IntKind.i64 (0 : Int))))], hp := [some (AB.var (31 : Nat) [CV.ro (50 : Nat) ks, CV.ro (53 : Nat) ps])] })) (by kernel_rfl) ?_
    have e1 : (i - 1).toNat = i.toNat - 1 := by omega
    rw [e1]
    have next : KOk ks i.toNat → i < ks.length → (c_bo1 ks ps).At [1, 1, 0, 1, 0] ⟨mkS 117 [(1, .c (.pt 0 0)), (3, iv (i + 1))], [some (.var 31 [.ro 50 ks, .ro 53 ps])]⟩ := fun h hlt =>
      ih (ks.length - (i + 1)).toNat (by omega) (i + 1) rfl (by omega) (by omega) fun j hj => by
        by_cases e : j = i.toNat
        · rw [e]; exact h
        · exact hK j (by omega)
    repeat' (first | (with_reducible refine And.intro ?_ ?_) | refine brN ?_ | refine brD (fun _ => ?_) (fun _ => ?_) | refine brE (fun _ => ?_) (fun _ => ?_) | refine brEn (fun _ => ?_) (fun _ => ?_) | refine brEb (fun _ => ?_) (fun _ => ?_) | refine brS (fun _ => ?_) (fun _ => ?_) | refine brI (fun _ => ?_) (fun _ => ?_) | omega | exact wrI (by omega) (by omega) | exact hk.el (by omega) | exact next ⟨‹_›, fun _ => ‹_›⟩ ‹_› | exact next ⟨‹_›, fun _ => by omega⟩ ‹_› | exact bo1_f (fun hb => tf ((hb.k i.toNat (by omega)).1) ‹_›) | exact bo1_f (fun hb => tf ((hb.k i.toNat (by omega)).2 (by omega)) ‹_›) | exact bo1_l2 hk hp h6 h16 _ 0 rfl (by omega) (by omega) (fun j hj => hK j (by omega)) (fun j hj => by omega) | fail)
end
theorem bo1_sem (ks ps : List (List DV)) (hk : Shp Try.prog 50 ks) (hp : Shp Try.prog 53 ps) : FunSem Try.prog 6 [] [.ag [.ro 50 ks, .ro 53 ps]] [] (bv (baseB ks ps)) := by
  refine bo1_of ks ps ?_
  refine FC.ev (by kernel_rfl) 100 (X := brP (decide ((↑(List.length ks) : Int) > (6 : Int))) (FC.Fin (c_bo1 ks ps) (AV.c (CV.v (Value.bool false))) []) (brP (decide ((↑(List.length ps) : Int) > (16 : Int))) (FC.Fin (c_bo1 ks ps) (AV.c (CV.v (Value.bool false))) []) (FC.At (c_bo1 ks ps) [(1 : Nat), (1 : Nat), (0 : Nat), (1 : Nat), (0 : Nat)] { sl := mkS (117 : Nat) [((1 : Nat), AV.c (CV.pt (0 : Nat) (0 : Nat))), ((3 : Nat), AV.c (CV.v (Value.int IntKind.i64 (0 : Int))))], hp := [some (AB.var (31 : Nat) [CV.ro (50 : Nat) ks, CV.ro (53 : Nat) ps])] }))) (by kernel_rfl) ?_
  refine brD (fun h => finV (bv_eq (baseB_f fun hb => by have := hb.h6; omega)) rfl) (fun h6 => brD (fun h => finV (bv_eq (baseB_f fun hb => by have := hb.h16; omega)) rfl) (fun h16 => ?_))
  exact bo1_l1 hk hp (by omega) (by omega) _ 0 rfl (by omega) (by omega) (fun j hj => by omega)
noncomputable def e_bo1 : CE Try.prog := CE.pure 6 [.ag [.l 50, .l 53]] (fun
  | [.ag [.ro 50 ks, .ro 53 ps]] => some ([Shp Try.prog 50 ks, Shp Try.prog 53 ps], bv (baseB ks ps), [])
  | _ => none) (by
  intro ys q v hp1 h hq
  split at h <;> cases h
  exact bo1_sem _ _ hq.1 hq.2.1)
end Go.Proofs.Ytekdfddodabfcaa
/- Contracts: kinds, points, bases (the program's). -/
namespace Go.Proofs.Ytekdfddodabfcaa
open Go.RowKit
set_option linter.unusedVariables false
set_option linter.unusedSectionVars false
set_option linter.unusedSimpArgs false
noncomputable def c_kd2 (nm : ByteArray) (q s : Int) : FC := mkC Try.prog Try.f26 [0, 1, 2] [0, 1, 2] [] [e_nm2, e_in2] 0 [] (bv (kindB nm q s))
theorem kd2_of (nm : ByteArray) (q s : Int) (h : (c_kd2 nm q s).At [] ⟨mkS 23 [(0, .ag [.v (.string nm), .v (.int .i64 q), .v (.int .i64 s)])], []⟩) : FunSem Try.prog 26 [] [.ag [.v (.string nm), .v (.int .i64 q), .v (.int .i64 s)]] [] (bv (kindB nm q s)) :=
  FC.sem (C := c_kd2 nm q s) (m := 22) Try.func26 (by kernel_rfl) rfl rfl (by kernel_rfl) rfl rfl h
theorem kd2_sem (nm : ByteArray) (q s : Int) : FunSem Try.prog 26 [] [.ag [.v (.string nm), .v (.int .i64 q), .v (.int .i64 s)]] [] (bv (kindB nm q s)) := by
  refine kd2_of nm q s ?_
  refine FC.ev (by kernel_rfl) 100 (X := brP (nameB nm) (brP (decide (q ≥ (1 : Int))) (brP (decide (q ≤ s)) (FC.Fin (c_kd2 nm q s) (AV.c (CV.v (Value.bool (decide (s ≤ (50 : Int)))))) []) (FC.Fin (c_kd2 nm q s) (AV.c (CV.v (Value.bool false))) [])) (FC.Fin (c_kd2 nm q s) (AV.c (CV.v (Value.bool false))) [])) (FC.Fin (c_kd2 nm q s) (AV.c (CV.v (Value.bool false))) [])) (by kernel_rfl) ?_
  repeat' (first | (with_reducible refine And.intro ?_ ?_) | refine brN ?_ | refine brD (fun _ => ?_) (fun _ => ?_) | refine brE (fun _ => ?_) (fun _ => ?_) | refine brEn (fun _ => ?_) (fun _ => ?_) | refine brEb (fun _ => ?_) (fun _ => ?_) | refine brS (fun _ => ?_) (fun _ => ?_) | refine brI (fun _ => ?_) (fun _ => ?_) | omega | exact wrI (by omega) (by omega) | refine finV (bv_eq ?_) rfl | fail)
  all_goals simp_all [kindB, rangeB]
  all_goals omega
noncomputable def e_kd2 : CE Try.prog := CE.pure 26 [.ag [.x, .x, .x]] (fun
  | [.ag [.v (.string nm), .v (.int .i64 q), .v (.int .i64 s)]] => some ([], bv (kindB nm q s), [])
  | _ => none) (by
  intro ys q v hp1 h hq
  split at h <;> cases h
  exact kd2_sem _ _ _)
noncomputable def c_pt2 (nm : ByteArray) (q s : Int) : FC := mkC Try.prog Try.f27 [0, 1, 2] [0, 1, 2] [] [e_nm2, e_in2] 0 [] (bv (pointB nm q s))
theorem pt2_of (nm : ByteArray) (q s : Int) (h : (c_pt2 nm q s).At [] ⟨mkS 16 [(0, .ag [.v (.string nm), .v (.int .i64 q), .v (.int .i64 s)])], []⟩) : FunSem Try.prog 27 [] [.ag [.v (.string nm), .v (.int .i64 q), .v (.int .i64 s)]] [] (bv (pointB nm q s)) :=
  FC.sem (C := c_pt2 nm q s) (m := 15) Try.func27 (by kernel_rfl) rfl rfl (by kernel_rfl) rfl rfl h
theorem pt2_sem (nm : ByteArray) (q s : Int) : FunSem Try.prog 27 [] [.ag [.v (.string nm), .v (.int .i64 q), .v (.int .i64 s)]] [] (bv (pointB nm q s)) := by
  refine pt2_of nm q s ?_
  refine FC.ev (by kernel_rfl) 100 (X := brP (nameB nm) (brP (rangeB q (0 : Int) (15 : Int)) (FC.Fin (c_pt2 nm q s) (AV.c (CV.v (Value.bool (rangeB s (0 : Int) (15 : Int))))) []) (FC.Fin (c_pt2 nm q s) (AV.c (CV.v (Value.bool false))) [])) (FC.Fin (c_pt2 nm q s) (AV.c (CV.v (Value.bool false))) [])) (by kernel_rfl) ?_
  repeat' (first | (with_reducible refine And.intro ?_ ?_) | refine brN ?_ | refine brD (fun _ => ?_) (fun _ => ?_) | refine brE (fun _ => ?_) (fun _ => ?_) | refine brEn (fun _ => ?_) (fun _ => ?_) | refine brEb (fun _ => ?_) (fun _ => ?_) | refine brS (fun _ => ?_) (fun _ => ?_) | refine brI (fun _ => ?_) (fun _ => ?_) | omega | exact wrI (by omega) (by omega) | refine finV (bv_eq ?_) rfl | fail)
  all_goals simp_all [pointB]
noncomputable def e_pt2 : CE Try.prog := CE.pure 27 [.ag [.x, .x, .x]] (fun
  | [.ag [.v (.string nm), .v (.int .i64 q), .v (.int .i64 s)]] => some ([], bv (pointB nm q s), [])
  | _ => none) (by
  intro ys q v hp1 h hq
  split at h <;> cases h
  exact pt2_sem _ _ _)
noncomputable def c_bo2 (ks ps : List (List DV)) : FC := mkC Try.prog Try.f8 [0, 1, 2, 3, 4, 5, 6, 7, 8, 20, 21, 22, 49, 50, 51] [0, 1, 2, 3, 4, 5, 6, 7, 8, 18, 20, 21, 22, 23, 45, 49, 50, 51, 52, 84] [([1, 1, 0, 1, 0], [1, 20, 21, 22]), ([1, 1, 1, 1, 0, 1, 0], [1, 5, 49, 50, 51])] [e_kd2, e_pt2] 0 [] (bv (baseB ks ps))
theorem bo2_of (ks ps : List (List DV)) (h : (c_bo2 ks ps).At [] ⟨mkS 88 [(0, .ag [.ro 50 ks, .ro 53 ps])], []⟩) : FunSem Try.prog 8 [] [.ag [.ro 50 ks, .ro 53 ps]] [] (bv (baseB ks ps)) :=
  FC.sem (C := c_bo2 ks ps) (m := 87) Try.func8 (by kernel_rfl) rfl rfl (by kernel_rfl) rfl rfl h
section
variable {ks ps : List (List DV)}
theorem bo2_f (h : ¬ BaseOk ks ps) : (c_bo2 ks ps).Fin (bv false) [] := finV (bv_eq (baseB_f h)) rfl
variable (hk : Shp Try.prog 50 ks) (hp : Shp Try.prog 53 ps) (h6 : ks.length ≤ 6) (h16 : ps.length ≤ 16)
include hk hp h6 h16
theorem bo2_l2 (hK : ∀ j, j < ks.length → KOk ks j) : ∀ (m : Nat) (i : Int) (o : Obj), m = (ps.length - i).toNat → 0 ≤ i → i ≤ ps.length → (∀ j, j < i.toNat → POk ps j) →
    SetM Try.prog 56 o → (∀ x y : Int, memO o [.int .i64 x, .int .i64 y] = true ↔ ∃ j : Nat, j < i.toNat ∧ cI ps j 1 = x ∧ cI ps j 2 = y) →
    (c_bo2 ks ps).At [1, 1, 1, 1, 0, 1, 0] ⟨mkS 88 [(1, .c (.pt 0 0)), (5, .c (.mp 1)), (49, .c (.ro 53 ps)), (50, iv ps.length), (51, iv i)], [some (.var 31 [.ro 50 ks, .ro 53 ps]), some (.ob o)]⟩ := by
  intro m
  induction m using Nat.strongRecOn with
  | _ m ih =>
    intro i o hm h0 hn hP hS hM
    refine FC.loopB (by kernel_rfl) (by kernel_rfl) 100 (X := brP (decide (i < (↑(List.length ps) : Int))) ((0 : Int) ≤ i ∧ El Try.prog (53 : Nat) ps (Int.toNat i) ∧ brP (!pointB (cS ps (Int.toNat i) (0 : Nat)) (cI ps (Int.toNat i) (1 : Nat)) (cI ps (Int.toNat i) (2 : Nat))) (FC.Fin (c_bo2 ks ps) (AV.c (CV.v (Value.bool false))) []) (brP (decide (i > (0 : Int))) (IntKind.wrap IntKind.i64 (i - (1 : Int)) = i - (1 : Int) ∧ (0 : Int) ≤ i - (1 : Int) ∧ El Try.prog (53 : Nat) ps (Int.toNat (i - (1 : Int))) ∧ brP (!Op.bytesLess (ByteArray.toList (cS ps (Int.toNat (i - (1 : Int))) (0 : Nat))) (ByteArray.toList (cS ps (Int.toNat i) (0 : Nat)))) (FC.Fin (c_bo2 ks ps) (AV.c (CV.v (Value.bool false))) []) (SetM Try.prog (56 : Nat) o ∧ brP (memO o [Value.int IntKind.i64 (cI ps (Int.toNat i) (1 : Nat)), Value.int IntKind.i64 (cI ps (Int.toNat i) (2 : Nat))]) (FC.Fin (c_bo2 ks ps) (AV.c (CV.v (Value.bool false))) []) (SetM Try.prog (56 : Nat) o ∧ memO o [Value.int IntKind.i64 (cI ps (Int.toNat i) (1 : Nat)), Value.int IntKind.i64 (cI ps (Int.toNat i) (2 : Nat))] = false ∧ IntKind.wrap IntKind.i64 (i + (1 : Int)) = i + (1 : Int) ∧ FC.At (c_bo2 ks ps) [(1 : Nat), (1 : Nat), (1 : Nat), (1 : Nat), (0 : Nat), (1 : Nat), (0 : Nat)] { sl := mkS (88 : Nat) [((1 : Nat), AV.c (CV.pt (0 : Nat) (0 : Nat))), ((5 : Nat), AV.c (CV.mp (1 : Nat))), ((49 : Nat), AV.c (CV.ro (53 : Nat) ps)), ((50 : Nat), AV.c (CV.v (Value.int IntKind.i64 (↑(List.length ps) : Int)))), ((51 : Nat), AV.c (CV.v (Value.int IntKind.i64 (i + (1 : Int)))))], hp := [some (AB.var (31 : Nat) [CV.ro (50 : Nat) ks, CV.ro (53 : Nat) ps]), some (AB.ob (insO o [Value.int IntKind.i64 (cI ps (Int.toNat i) (1 : Nat)), Value.int IntKind.i64 (cI ps (Int.toNat i) (2 : Nat))]))] }))) (SetM Try.prog (56 : Nat) o ∧ brP (memO o [Value.int IntKind.i64 (cI ps (Int.toNat i) (1 : Nat)), Value.int IntKind.i64 (cI ps (Int.toNat i) (2 : Nat))]) (FC.Fin (c_bo2 ks ps) (AV.c (CV.v (Value.bool false))) []) (SetM Try.prog (56 : Nat) o ∧ memO o [Value.int IntKind.i64 (cI ps (Int.toNat i) (1 : Nat)), Value.int IntKind.i64 (cI ps (Int.toNat i) (2 : Nat))] = false ∧ IntKind.wrap IntKind.i64 (i + (1 : Int)) = i + (1 : Int) ∧ FC.At (c_bo2 ks ps) [(1 : Nat), (1 : Nat), (1 : Nat), (1 : Nat), (0 : Nat), (1 : Nat), (0 : Nat)] { sl := mkS (88 : Nat) [((1 : Nat), AV.c (CV.pt (0 : Nat) (0 : Nat))), ((5 : Nat), AV.c (CV.mp (1 : Nat))), ((49 : Nat), AV.c (CV.ro (53 : Nat) ps)), ((50 : Nat), AV.c (CV.v (Value.int IntKind.i64 (↑(List.length ps) : Int)))), ((51 : Nat), AV.c (CV.v (Value.int IntKind.i64 (i + (1 : Int)))))], hp := [some (AB.var (31 : Nat) [CV.ro (50 : Nat) ks, CV.ro (53 : Nat) ps]), some (AB.ob (insO o [Value.int IntKind.i64 (cI ps (Int.toNat i) (1 : Nat)), Value.int IntKind.i64 (cI ps (Int.toNat i) (2 : Nat))]))] })))) (FC.Fin (c_bo2 ks ps) (AV.c (CV.v (Value.bool true))) [])) (by kernel_rfl) ?_
    have e1 : (i - 1).toNat = i.toNat - 1 := by omega
    rw [e1]
    have next : i < ps.length → pointB (cS ps i.toNat 0) (cI ps i.toNat 1) (cI ps i.toNat 2) = true → (0 < i.toNat → Op.bytesLess (cS ps (i.toNat - 1) 0).toList (cS ps i.toNat 0).toList = true) →
        memO o [.int .i64 (cI ps i.toNat 1), .int .i64 (cI ps i.toNat 2)] = false →
        (c_bo2 ks ps).At [1, 1, 1, 1, 0, 1, 0] ⟨mkS 88 [(1, .c (.pt 0 0)), (5, .c (.mp 1)), (49, .c (.ro 53 ps)), (50, iv ps.length), (51, iv (i + 1))], [some (.var 31 [.ro 50 ks, .ro 53 ps]), some (.ob (insO o [.int .i64 (cI ps i.toNat 1), .int .i64 (cI ps i.toNat 2)]))]⟩ := fun hlt h1 h2 h3 => by
      have h4 : ∀ k, k < i.toNat → ¬ (cI ps k 1 = cI ps i.toNat 1 ∧ cI ps k 2 = cI ps i.toNat 2) := fun k hk hh => tf ((hM _ _).2 ⟨k, hk, hh⟩) h3
      refine ih (ps.length - (i + 1)).toNat (by omega) (i + 1) _ rfl (by omega) (by omega) (fun j hj => ?_) (hS.ins (by kernel_rfl)) (fun x y => ?_)
      · by_cases e : j = i.toNat
        · rw [e]; exact ⟨h1, h2, h4⟩
        · exact hP j (by omega)
      · rw [hS.mem, Bool.or_eq_true, hM]
        simp only [eqVs, eqV, Bool.and_true, Bool.and_eq_true, beq_iff_eq]
        constructor
        · rintro (⟨j, hj, h5, h6⟩ | ⟨h5, h6⟩)
          · exact ⟨j, by omega, h5, h6⟩
          · exact ⟨i.toNat, by omega, h5.symm, h6.symm⟩
        · rintro ⟨j, hj, h5, h6⟩
          by_cases e : j = i.toNat
          · subst e; exact .inr ⟨h5.symm, h6.symm⟩
          · exact .inl ⟨j, by omega, h5, h6⟩
    have dup : i < ps.length → memO o [.int .i64 (cI ps i.toNat 1), .int .i64 (cI ps i.toNat 2)] = true → (c_bo2 ks ps).Fin (bv false) [] := fun hlt h => bo2_f fun hb => by
      obtain ⟨j, hj, hh⟩ := (hM _ _).1 h
      exact (hb.p i.toNat (by omega)).2.2 j hj hh
    repeat' (first | (with_reducible refine And.intro ?_ ?_) | refine brN ?_ | refine brD (fun _ => ?_) (fun _ => ?_) | refine brE (fun _ => ?_) (fun _ => ?_) | refine brEn (fun _ => ?_) (fun _ => ?_) | refine brEb (fun _ => ?_) (fun _ => ?_) | refine brS (fun _ => ?_) (fun _ => ?_) | refine brI (fun _ => ?_) (fun _ => ?_) | omega | exact wrI (by omega) (by omega) | exact hp.el (by omega) | exact hS | exact ‹_› | exact next ‹_› ‹_› (fun _ => ‹_›) ‹_› | exact next ‹_› ‹_› (fun _ => by omega) ‹_› | exact dup ‹_› ‹_› | exact bo2_f (fun hb => tf ((hb.p i.toNat (by omega)).1) ‹_›) | exact bo2_f (fun hb => tf ((hb.p i.toNat (by omega)).2.1 (by omega)) ‹_›) | exact finV (bv_eq (baseB_t ⟨h6, h16, hK, fun j hj => hP j (by omega)⟩)) rfl | fail)
theorem bo2_l1 : ∀ (m : Nat) (i : Int), m = (ks.length - i).toNat → 0 ≤ i → i ≤ ks.length → (∀ j, j < i.toNat → KOk ks j) →
    (c_bo2 ks ps).At [1, 1, 0, 1, 0] ⟨mkS 88 [(1, .c (.pt 0 0)), (20, .c (.ro 50 ks)), (21, iv ks.length), (22, iv i)], [some (.var 31 [.ro 50 ks, .ro 53 ps])]⟩ := by
  intro m
  induction m using Nat.strongRecOn with
  | _ m ih =>
    intro i hm h0 hn hK
    refine FC.loopB (by kernel_rfl) (by kernel_rfl) 100 (X := brP (decide (i < (↑(List.length ks) : Int))) ((0 : Int) ≤ i ∧ El Try.prog (50 : Nat) ks (Int.toNat i) ∧ brP (!kindB (cS ks (Int.toNat i) (0 : Nat)) (cI ks (Int.toNat i) (1 : Nat)) (cI ks (Int.toNat i) (2 : Nat))) (FC.Fin (c_bo2 ks ps) (AV.c (CV.v (Value.bool false))) []) (brP (decide (i > (0 : Int))) (IntKind.wrap IntKind.i64 (i - (1 : Int)) = i - (1 : Int) ∧ (0 : Int) ≤ i - (1 : Int) ∧ El Try.prog (50 : Nat) ks (Int.toNat (i - (1 : Int))) ∧ brP (!Op.bytesLess (ByteArray.toList (cS ks (Int.toNat (i - (1 : Int))) (0 : Nat))) (ByteArray.toList (cS ks (Int.toNat i) (0 : Nat)))) (FC.Fin (c_bo2 ks ps) (AV.c (CV.v (Value.bool false))) []) (IntKind.wrap IntKind.i64 (i + (1 : Int)) = i + (1 : Int) ∧ FC.At (c_bo2 ks ps) [(1 : Nat), (1 : Nat), (0 : Nat), (1 : Nat), (0 : Nat)] { sl := mkS (88 : Nat) [((1 : Nat), AV.c (CV.pt (0 : Nat) (0 : Nat))), ((20 : Nat), AV.c (CV.ro (50 : Nat) ks)), ((21 : Nat), AV.c (CV.v (Value.int IntKind.i64 (↑(List.length ks) : Int)))), ((22 : Nat), AV.c (CV.v (Value.int IntKind.i64 (i + (1 : Int)))))], hp := [some (AB.var (31 : Nat) [CV.ro (50 : Nat) ks, CV.ro (53 : Nat) ps])] })) (IntKind.wrap IntKind.i64 (i + (1 : Int)) = i + (1 : Int) ∧ FC.At (c_bo2 ks ps) [(1 : Nat), (1 : Nat), (0 : Nat), (1 : Nat), (0 : Nat)] { sl := mkS (88 : Nat) [((1 : Nat), AV.c (CV.pt (0 : Nat) (0 : Nat))), ((20 : Nat), AV.c (CV.ro (50 : Nat) ks)), ((21 : Nat), AV.c (CV.v (Value.int IntKind.i64 (↑(List.length ks) : Int)))), ((22 : Nat), AV.c (CV.v (Value.int IntKind.i64 (i + (1 : Int)))))], hp := [some (AB.var (31 : Nat) [CV.ro (50 : Nat) ks, CV.ro (53 : Nat) ps])] }))) (FC.At (c_bo2 ks ps) [(1 : Nat), (1 : Nat), (1 : Nat), (1 : Nat), (0 : Nat), (1 : Nat), (0 : Nat)] { sl := mkS (88 : Nat) [((1 : Nat), AV.c (CV.pt (0 : Nat) (0 : Nat))), ((5 : Nat), AV.c (CV.mp (1 : Nat))), ((49 : Nat), AV.c (CV.ro (53 : Nat) ps)), ((50 : Nat), AV.c (CV.v (Value.int IntKind.i64 (↑(List.length ps) : Int)))), ((51 : Nat), AV.c (CV.v (Value.int IntKind.i64 (0 : Int))))], hp := [some (AB.var (31 : Nat) [CV.ro (50 : Nat) ks, CV.ro (53 : Nat) ps]), some (AB.ob emptyO)] })) (by kernel_rfl) ?_
    have e1 : (i - 1).toNat = i.toNat - 1 := by omega
    rw [e1]
    have next : KOk ks i.toNat → i < ks.length → (c_bo2 ks ps).At [1, 1, 0, 1, 0] ⟨mkS 88 [(1, .c (.pt 0 0)), (20, .c (.ro 50 ks)), (21, iv ks.length), (22, iv (i + 1))], [some (.var 31 [.ro 50 ks, .ro 53 ps])]⟩ := fun h hlt =>
      ih (ks.length - (i + 1)).toNat (by omega) (i + 1) rfl (by omega) (by omega) fun j hj => by
        by_cases e : j = i.toNat
        · rw [e]; exact h
        · exact hK j (by omega)
    repeat' (first | (with_reducible refine And.intro ?_ ?_) | refine brN ?_ | refine brD (fun _ => ?_) (fun _ => ?_) | refine brE (fun _ => ?_) (fun _ => ?_) | refine brEn (fun _ => ?_) (fun _ => ?_) | refine brEb (fun _ => ?_) (fun _ => ?_) | refine brS (fun _ => ?_) (fun _ => ?_) | refine brI (fun _ => ?_) (fun _ => ?_) | omega | exact wrI (by omega) (by omega) | exact hk.el (by omega) | exact next ⟨‹_›, fun _ => ‹_›⟩ ‹_› | exact next ⟨‹_›, fun _ => by omega⟩ ‹_› | exact bo2_f (fun hb => tf ((hb.k i.toNat (by omega)).1) ‹_›) | exact bo2_f (fun hb => tf ((hb.k i.toNat (by omega)).2 (by omega)) ‹_›) | fail)
    exact bo2_l2 hk hp h6 h16 (fun j hj => hK j (by omega)) _ 0 emptyO rfl (by omega) (by omega) (fun j hj => by omega) (SetM.empty (by kernel_rfl)) (fun x y => ⟨fun h => (by rw [memO_empty] at h; cases h), fun ⟨j, hj, _⟩ => absurd hj (by omega)⟩)
end
theorem bo2_sem (ks ps : List (List DV)) (hk : Shp Try.prog 50 ks) (hp : Shp Try.prog 53 ps) : FunSem Try.prog 8 [] [.ag [.ro 50 ks, .ro 53 ps]] [] (bv (baseB ks ps)) := by
  refine bo2_of ks ps ?_
  refine FC.ev (by kernel_rfl) 100 (X := brP (decide ((↑(List.length ks) : Int) > (6 : Int))) (FC.Fin (c_bo2 ks ps) (AV.c (CV.v (Value.bool false))) []) (brP (decide ((↑(List.length ps) : Int) > (16 : Int))) (FC.Fin (c_bo2 ks ps) (AV.c (CV.v (Value.bool false))) []) (FC.At (c_bo2 ks ps) [(1 : Nat), (1 : Nat), (0 : Nat), (1 : Nat), (0 : Nat)] { sl := mkS (88 : Nat) [((1 : Nat), AV.c (CV.pt (0 : Nat) (0 : Nat))), ((20 : Nat), AV.c (CV.ro (50 : Nat) ks)), ((21 : Nat), AV.c (CV.v (Value.int IntKind.i64 (↑(List.length ks) : Int)))), ((22 : Nat), AV.c (CV.v (Value.int IntKind.i64 (0 : Int))))], hp := [some (AB.var (31 : Nat) [CV.ro (50 : Nat) ks, CV.ro (53 : Nat) ps])] }))) (by kernel_rfl) ?_
  refine brD (fun h => finV (bv_eq (baseB_f fun hb => by have := hb.h6; omega)) rfl) (fun h6 => brD (fun h => finV (bv_eq (baseB_f fun hb => by have := hb.h16; omega)) rfl) (fun h16 => ?_))
  exact bo2_l1 hk hp (by omega) (by omega) _ 0 rfl (by omega) (by omega) (fun j hj => by omega)
noncomputable def e_bo2 : CE Try.prog := CE.pure 8 [.ag [.l 50, .l 53]] (fun
  | [.ag [.ro 50 ks, .ro 53 ps]] => some ([Shp Try.prog 50 ks, Shp Try.prog 53 ps], bv (baseB ks ps), [])
  | _ => none) (by
  intro ys q v hp1 h hq
  split at h <;> cases h
  exact bo2_sem _ _ hq.1 hq.2.1)
end Go.Proofs.Ytekdfddodabfcaa
/- Contracts: the laws' own small functions over plain structs: sizes, copies, equality. (Printed by gen_laws.py.) -/
namespace Go.Proofs.Ytekdfddodabfcaa
open Go.RowKit
set_option linter.unusedVariables false
set_option linter.unusedSimpArgs false
/-! PlanKind -/
noncomputable def c_szKind (x0 : ByteArray) (x1 : Int) (x2 : Int) (left : Int) : FC := mkC Try.prog Try.f40 [0, 1, 2, 4] [0, 1, 2, 4, 11] [] [] 0 [] (iv (szN [x0.size] left))
theorem szKind_of (x0 : ByteArray) (x1 : Int) (x2 : Int) (left : Int) (h : (c_szKind x0 x1 x2 left).At [] ⟨mkS 13 [(0, .ag [.v (.string x0), .v (.int .i64 x1), .v (.int .i64 x2)]), (1, iv left)], []⟩) : FunSem Try.prog 40 [] [.ag [.v (.string x0), .v (.int .i64 x1), .v (.int .i64 x2)], iv left] [] (iv (szN [x0.size] left)) :=
  FC.sem (C := c_szKind x0 x1 x2 left) (m := 11) Try.func40 (by kernel_rfl) rfl rfl (by kernel_rfl) rfl rfl h
theorem szKind_sem (x0 : ByteArray) (x1 : Int) (x2 : Int) (left : Int) (h0 : 0 ≤ left) (h1 : left ≤ 1048576) (h0 : x0.size ≤ 9223372036854775807) : FunSem Try.prog 40 [] [.ag [.v (.string x0), .v (.int .i64 x1), .v (.int .i64 x2)], iv left] [] (iv (szN [x0.size] left)) := by
  refine szKind_of x0 x1 x2 left ?_
  refine FC.ev (by kernel_rfl) 100 (X := IntKind.wrap IntKind.i64 (left - (↑(ByteArray.size x0) : Int)) = left - (↑(ByteArray.size x0) : Int) ∧ brP (decide (left - (↑(ByteArray.size x0) : Int) < (0 : Int))) (FC.Fin (c_szKind x0 x1 x2 left) (AV.c (CV.v (Value.int IntKind.i64 (-1 : Int)))) []) (FC.Fin (c_szKind x0 x1 x2 left) (AV.c (CV.v (Value.int IntKind.i64 (left - (↑(ByteArray.size x0) : Int))))) [])) (by kernel_rfl) ?_
  repeat' (first | (with_reducible refine And.intro ?_ ?_) | refine brN ?_ | refine brD (fun _ => ?_) (fun _ => ?_) | refine brE (fun _ => ?_) (fun _ => ?_) | refine brEn (fun _ => ?_) (fun _ => ?_) | refine brEb (fun _ => ?_) (fun _ => ?_) | refine brS (fun _ => ?_) (fun _ => ?_) | refine brI (fun _ => ?_) (fun _ => ?_) | omega | exact wrI (by omega) (by omega) | refine finV (iv_eq ?_) rfl | fail)
  all_goals simp only [szN]
  all_goals (repeat' split)
  all_goals omega
noncomputable def e_szKind : CE Try.prog := CE.pure 40 [.ag [.x, .x, .x], .c .x] (fun
  | [.ag [.v (.string x0), .v (.int .i64 x1), .v (.int .i64 x2)], .c (.v (.int .i64 left))] => some ([0 ≤ left, left ≤ 1048576, x0.size ≤ 9223372036854775807], iv (szN [x0.size] left), [])
  | _ => none) (by
  intro ys q v hp1 h hq
  split at h <;> cases h
  exact szKind_sem _ _ _ _ hq.1 hq.2.1 hq.2.2.1)
noncomputable def c_szKinds (ls : List (List DV)) (left : Int) : FC := mkC Try.prog Try.f20 [0, 1, 4, 5] [0, 1, 4, 5, 11, 15, 25] [([1, 1, 1, 0, 1, 0], [0, 1, 5])] [e_szKind] 0 [] (iv (szS [0] ls left))
theorem szKinds_of (ls : List (List DV)) (left : Int) (h : (c_szKinds ls left).At [] ⟨mkS 27 [(0, .c (.ro 72 ls)), (1, iv left)], []⟩) : FunSem Try.prog 20 [] [.c (.ro 72 ls), iv left] [] (iv (szS [0] ls left)) :=
  FC.sem (C := c_szKinds ls left) (m := 25) Try.func20 (by kernel_rfl) rfl rfl (by kernel_rfl) rfl rfl h
theorem szKinds_l (ls : List (List DV)) (left : Int) (hS : Shp Try.prog 72 ls) (hB : StrB [0] ls) (hl : ls.length ≤ 1048576) (hr0 : szS [0] ls left = szRows [0] ls (left - ls.length)) : ∀ (m : Nat) (l i : Int), m = (ls.length - i).toNat → 0 ≤ i → i ≤ ls.length → 0 ≤ l → l ≤ 1048576 → szRows [0] (ls.drop i.toNat) l = szS [0] ls left →
    (c_szKinds ls left).At [1, 1, 1, 0, 1, 0] ⟨mkS 27 [(0, .c (.ro 72 ls)), (1, iv l), (5, iv i)], []⟩ := by
  intro m
  induction m using Nat.strongRecOn with
  | _ m ih =>
    intro l i hm h0 hn hl0 hl1 hr
    refine FC.loopB (by kernel_rfl) (by kernel_rfl) 100 (X := brP (decide (i < (↑(List.length ls) : Int))) ((0 : Int) ≤ i ∧ El Try.prog (72 : Nat) ls (Int.toNat i) ∧ (0 : Int) ≤ l ∧ l ≤ (1048576 : Int) ∧ ByteArray.size (cS ls (Int.toNat i) (0 : Nat)) ≤ (9223372036854775807 : Nat) ∧ brP (decide (szN [ByteArray.size (cS ls (Int.toNat i) (0 : Nat))] l < (0 : Int))) (FC.Fin (c_szKinds ls left) (AV.c (CV.v (Value.int IntKind.i64 (-1 : Int)))) []) (IntKind.wrap IntKind.i64 (i + (1 : Int)) = i + (1 : Int) ∧ FC.At (c_szKinds ls left) [(1 : Nat), (1 : Nat), (1 : Nat), (0 : Nat), (1 : Nat), (0 : Nat)] { sl := mkS (27 : Nat) [((0 : Nat), AV.c (CV.ro (72 : Nat) ls)), ((1 : Nat), AV.c (CV.v (Value.int IntKind.i64 (szN [ByteArray.size (cS ls (Int.toNat i) (0 : Nat))] l)))), ((5 : Nat), AV.c (CV.v (Value.int IntKind.i64 (i + (1 : Int)))))], hp := [] })) (FC.Fin (c_szKinds ls left) (AV.c (CV.v (Value.int IntKind.i64 l))) [])) (by kernel_rfl) ?_
    have hstep : i < ls.length → szRows [0] (ls.drop i.toNat) l = if szN [(cS ls i.toNat 0).size] l < 0 then -1 else szRows [0] (ls.drop (i + 1).toNat) (szN [(cS ls i.toNat 0).size] l) := fun h => by
      rw [show (i + 1).toNat = i.toNat + 1 by omega]; exact szRows_drop [0] (by omega) l
    have hle := szN_le [(cS ls i.toNat 0).size] l
    repeat' (first | (with_reducible refine And.intro ?_ ?_) | refine brN ?_ | refine brD (fun _ => ?_) (fun _ => ?_) | refine brE (fun _ => ?_) (fun _ => ?_) | refine brEn (fun _ => ?_) (fun _ => ?_) | refine brEb (fun _ => ?_) (fun _ => ?_) | refine brS (fun _ => ?_) (fun _ => ?_) | refine brI (fun _ => ?_) (fun _ => ?_) | omega | exact wrI (by omega) (by omega) | exact hS.el (by omega) | exact hB i.toNat (by omega) _ (by simp) | exact finV (iv_eq (by rw [← hr, hstep ‹_›, if_pos ‹_›])) rfl | exact ih _ (by omega) _ (i + 1) rfl (by omega) (by omega) (by omega) (by omega) (by rw [← hr, hstep ‹_›, if_neg ‹_›]) | fail)
    refine finV (iv_eq ?_) rfl
    rw [← hr, List.drop_eq_nil_of_le (by omega)]; rfl
theorem szKinds_sem (ls : List (List DV)) (left : Int) (hS : Shp Try.prog 72 ls) (hB : StrB [0] ls) (hl : ls.length ≤ 9223372036854775807) (h0 : 0 ≤ left) (h1 : left ≤ 1048576) : FunSem Try.prog 20 [] [.c (.ro 72 ls), iv left] [] (iv (szS [0] ls left)) := by
  refine szKinds_of ls left ?_
  refine FC.ev (by kernel_rfl) 100 (X := IntKind.wrap IntKind.i64 (left - (↑(List.length ls) : Int)) = left - (↑(List.length ls) : Int) ∧ brP (decide (left - (↑(List.length ls) : Int) < (0 : Int))) (FC.Fin (c_szKinds ls left) (AV.c (CV.v (Value.int IntKind.i64 (-1 : Int)))) []) (FC.At (c_szKinds ls left) [(1 : Nat), (1 : Nat), (1 : Nat), (0 : Nat), (1 : Nat), (0 : Nat)] { sl := mkS (27 : Nat) [((0 : Nat), AV.c (CV.ro (72 : Nat) ls)), ((1 : Nat), AV.c (CV.v (Value.int IntKind.i64 (left - (↑(List.length ls) : Int))))), ((5 : Nat), AV.c (CV.v (Value.int IntKind.i64 (0 : Int))))], hp := [] })) (by kernel_rfl) ?_
  repeat' (first | (with_reducible refine And.intro ?_ ?_) | refine brN ?_ | refine brD (fun _ => ?_) (fun _ => ?_) | refine brE (fun _ => ?_) (fun _ => ?_) | refine brEn (fun _ => ?_) (fun _ => ?_) | refine brEb (fun _ => ?_) (fun _ => ?_) | refine brS (fun _ => ?_) (fun _ => ?_) | refine brI (fun _ => ?_) (fun _ => ?_) | omega | exact wrI (by omega) (by omega) | fail)
  · exact finV (iv_eq (by unfold szS; rw [if_pos ‹_›])) rfl
  · have e : szS [0] ls left = szRows [0] ls (left - ls.length) := by unfold szS; rw [if_neg ‹_›]
    exact szKinds_l ls left hS hB (by omega) e _ _ 0 rfl (by omega) (by omega) (by omega) (by omega) (by rw [e]; rfl)
noncomputable def e_szKinds : CE Try.prog := CE.pure 20 [.c (.l 72), .c .x] (fun
  | [.c (.ro 72 ls), .c (.v (.int .i64 left))] => some ([Shp Try.prog 72 ls, StrB [0] ls, ls.length ≤ 9223372036854775807, 0 ≤ left, left ≤ 1048576], iv (szS [0] ls left), [])
  | _ => none) (by
  intro ys q v hp1 h hq
  split at h <;> cases h
  exact szKinds_sem _ _ hq.1 hq.2.1 hq.2.2.1 hq.2.2.2.1 hq.2.2.2.2.1)
noncomputable def c_toKind (x0 : ByteArray) (x1 : Int) (x2 : Int) : FC := mkC Try.prog Try.f44 [0, 1, 2, 3] [0, 1, 2, 3] [] [] 0 [] (.ag [.v (.string x0), .v (.int .i64 x1), .v (.int .i64 x2)])
theorem toKind_of (x0 : ByteArray) (x1 : Int) (x2 : Int) (h : (c_toKind x0 x1 x2).At [] ⟨mkS 14 [(0, .ag [.v (.string x0), .v (.int .i64 x1), .v (.int .i64 x2)])], []⟩) : FunSem Try.prog 44 [] [.ag [.v (.string x0), .v (.int .i64 x1), .v (.int .i64 x2)]] [] (.ag [.v (.string x0), .v (.int .i64 x1), .v (.int .i64 x2)]) :=
  FC.sem (C := c_toKind x0 x1 x2) (m := 13) Try.func44 (by kernel_rfl) rfl rfl (by kernel_rfl) rfl rfl h
theorem toKind_sem (x0 : ByteArray) (x1 : Int) (x2 : Int) : FunSem Try.prog 44 [] [.ag [.v (.string x0), .v (.int .i64 x1), .v (.int .i64 x2)]] [] (.ag [.v (.string x0), .v (.int .i64 x1), .v (.int .i64 x2)]) := by
  refine toKind_of x0 x1 x2 ?_
  refine FC.ev (by kernel_rfl) 100 (X := FC.Fin (c_toKind x0 x1 x2) (AV.ag [CV.v (Value.string x0), CV.v (Value.int IntKind.i64 x1), CV.v (Value.int IntKind.i64 x2)]) []) (by kernel_rfl) ?_
  exact finV rfl rfl
noncomputable def e_toKind : CE Try.prog := CE.pure 44 [.ag [.x, .x, .x]] (fun
  | [.ag [.v (.string x0), .v (.int .i64 x1), .v (.int .i64 x2)]] => some ([], .ag [.v (.string x0), .v (.int .i64 x1), .v (.int .i64 x2)], [])
  | _ => none) (by
  intro ys q v hp1 h hq
  split at h <;> cases h
  exact toKind_sem _ _ _)
noncomputable def c_toKinds (ls : List (List DV)) : FC := mkC Try.prog Try.f24 [0, 2, 3, 4] [0, 2, 3, 4, 11] [([1, 1, 0, 1, 0], [0, 3, 4])] [e_toKind] 0 [some (.row true 50 ls)] (.c (.sl 0 ls.length))
theorem toKinds_of (ls : List (List DV)) (h : (c_toKinds ls).At [] ⟨mkS 23 [(0, .c (.ro 72 ls))], []⟩) : FunSem Try.prog 24 [] [.c (.ro 72 ls)] [some (.row true 50 ls)] (.c (.sl 0 ls.length)) :=
  FC.sem (C := c_toKinds ls) (m := 22) Try.func24 (by kernel_rfl) rfl rfl (by kernel_rfl) rfl rfl h
theorem toKinds_l (ls : List (List DV)) (hS : Shp Try.prog 72 ls) (hl : ls.length ≤ 1048576) : ∀ (m : Nat) (i : Int) (ms : List (List DV)) (n : Nat), m = (ls.length - i).toNat → 0 ≤ i → i ≤ ls.length → n = ms.length → ms.length = ls.length → Shp Try.prog 50 ms → (∀ j, j < i.toNat → ms[j]? = ls[j]?) →
    (c_toKinds ls).At [1, 1, 0, 1, 0] ⟨mkS 23 [(0, .c (.ro 72 ls)), (3, .c (.sl 0 n)), (4, iv i)], [some (.row true 50 ms)]⟩ := by
  intro m
  induction m using Nat.strongRecOn with
  | _ m ih =>
    intro i ms n hm h0 hn hn2 hlen hS2 hms
    refine FC.loopB (by kernel_rfl) (by kernel_rfl) 100 (X := brP (decide (i < (↑(List.length ls) : Int))) ((0 : Int) ≤ i ∧ El Try.prog (72 : Nat) ls (Int.toNat i) ∧ (0 : Int) ≤ i ∧ (n = List.length ms ∧ Int.toNat i < n) ∧ El Try.prog (50 : Nat) ms (Int.toNat i) ∧ IntKind.wrap IntKind.i64 (i + (1 : Int)) = i + (1 : Int) ∧ FC.At (c_toKinds ls) [(1 : Nat), (1 : Nat), (0 : Nat), (1 : Nat), (0 : Nat)] { sl := mkS (23 : Nat) [((0 : Nat), AV.c (CV.ro (72 : Nat) ls)), ((3 : Nat), AV.c (CV.sl (0 : Nat) n)), ((4 : Nat), AV.c (CV.v (Value.int IntKind.i64 (i + (1 : Int)))))], hp := [some (AB.row true (50 : Nat) (List.set ms (Int.toNat i) [DV.s (Value.string (cS ls (Int.toNat i) (0 : Nat))), DV.s (Value.int IntKind.i64 (cI ls (Int.toNat i) (1 : Nat))), DV.s (Value.int IntKind.i64 (cI ls (Int.toNat i) (2 : Nat)))]))] }) (FC.Fin (c_toKinds ls) (AV.c (CV.sl (0 : Nat) n)) [some (AB.row true (50 : Nat) ms)])) (by kernel_rfl) ?_
    repeat' (first | (with_reducible refine And.intro ?_ ?_) | refine brN ?_ | refine brD (fun _ => ?_) (fun _ => ?_) | refine brE (fun _ => ?_) (fun _ => ?_) | refine brEn (fun _ => ?_) (fun _ => ?_) | refine brEb (fun _ => ?_) (fun _ => ?_) | refine brS (fun _ => ?_) (fun _ => ?_) | refine brI (fun _ => ?_) (fun _ => ?_) | omega | exact wrI (by omega) (by omega) | exact hS.el (by omega) | exact hS2.el (by omega) | fail)
    · refine ih _ (by omega) (i + 1) _ _ rfl (by omega) (by omega) (by simp; omega) (by simp; omega) (hS2.set (by kernel_rfl)) (fun j hj => ?_)
      exact set_step hlen hms (by omega) (by omega) (hS.el (by omega))
    · have : ms = ls := List.ext_getElem? fun j => by
        by_cases hj : j < i.toNat
        · exact hms j hj
        · rw [List.getElem?_eq_none (by omega), List.getElem?_eq_none (by omega)]
      subst this; subst hn2; exact finV rfl rfl
theorem toKinds_sem (ls : List (List DV)) (hS : Shp Try.prog 72 ls) (hl : ls.length ≤ 1048576) : FunSem Try.prog 24 [] [.c (.ro 72 ls)] [some (.row true 50 ls)] (.c (.sl 0 ls.length)) := by
  refine toKinds_of ls ?_
  refine FC.ev (by kernel_rfl) 100 (X := ((0 : Int) ≤ (↑(List.length ls) : Int) ∧ (↑(List.length ls) : Int) ≤ (↑(List.length ls) : Int) ∧ (↑(List.length ls) : Int) ≤ (140737488355328 : Int) ∧ (↑(List.length ls) : Int) * (↑(32 : Nat) : Int) ≤ (281474976710656 : Int)) ∧ FC.At (c_toKinds ls) [(1 : Nat), (1 : Nat), (0 : Nat), (1 : Nat), (0 : Nat)] { sl := mkS (23 : Nat) [((0 : Nat), AV.c (CV.ro (72 : Nat) ls)), ((3 : Nat), AV.c (CV.sl (0 : Nat) (List.length (List.replicate (Int.toNat (↑(List.length ls) : Int)) [DV.s (Value.string { data := #[] }), DV.s (Value.int IntKind.i64 (0 : Int)), DV.s (Value.int IntKind.i64 (0 : Int))])))), ((4 : Nat), AV.c (CV.v (Value.int IntKind.i64 (0 : Int))))], hp := [some (AB.row true (50 : Nat) (List.replicate (Int.toNat (↑(List.length ls) : Int)) [DV.s (Value.string { data := #[] }), DV.s (Value.int IntKind.i64 (0 : Int)), DV.s (Value.int IntKind.i64 (0 : Int))]))] }) (by kernel_rfl) ?_
  repeat' (first | (with_reducible refine And.intro ?_ ?_) | refine brN ?_ | refine brD (fun _ => ?_) (fun _ => ?_) | refine brE (fun _ => ?_) (fun _ => ?_) | refine brEn (fun _ => ?_) (fun _ => ?_) | refine brEb (fun _ => ?_) (fun _ => ?_) | refine brS (fun _ => ?_) (fun _ => ?_) | refine brI (fun _ => ?_) (fun _ => ?_) | omega | exact wrI (by omega) (by omega) | fail)
  exact toKinds_l ls hS hl _ 0 _ _ rfl (by omega) (by omega) rfl (by simp) (Shp.replicate (by kernel_rfl)) (fun j hj => by omega)
noncomputable def e_toKinds : CE Try.prog := CE.pure 24 [.c (.l 72)] (fun
  | [.c (.ro 72 ls)] => some ([Shp Try.prog 72 ls, ls.length ≤ 1048576], .c (.sl 0 ls.length), [some (.row true 50 ls)])
  | _ => none) (by
  intro ys q v hp1 h hq
  split at h <;> cases h
  exact toKinds_sem _ hq.1 hq.2.1)
noncomputable def c_eqKind (x0 : ByteArray) (x1 : Int) (x2 : Int) : FC := mkC Try.prog Try.f48 [0, 1, 2, 3, 4] [0, 1, 2, 3, 4, 9, 14, 19] [] [] 0 [] (bv true)
theorem eqKind_of (x0 : ByteArray) (x1 : Int) (x2 : Int) (h : (c_eqKind x0 x1 x2).At [] ⟨mkS 20 [(0, .ag [.v (.string x0), .v (.int .i64 x1), .v (.int .i64 x2)]), (1, .ag [.v (.string x0), .v (.int .i64 x1), .v (.int .i64 x2)])], []⟩) : FunSem Try.prog 48 [] [.ag [.v (.string x0), .v (.int .i64 x1), .v (.int .i64 x2)], .ag [.v (.string x0), .v (.int .i64 x1), .v (.int .i64 x2)]] [] (bv true) :=
  FC.sem (C := c_eqKind x0 x1 x2) (m := 18) Try.func48 (by kernel_rfl) rfl rfl (by kernel_rfl) rfl rfl h
theorem eqKind_sem (x0 : ByteArray) (x1 : Int) (x2 : Int) : FunSem Try.prog 48 [] [.ag [.v (.string x0), .v (.int .i64 x1), .v (.int .i64 x2)], .ag [.v (.string x0), .v (.int .i64 x1), .v (.int .i64 x2)]] [] (bv true) := by
  refine eqKind_of x0 x1 x2 ?_
  refine FC.ev (by kernel_rfl) 100 (X := brP (!ByteArray.toList x0 == ByteArray.toList x0) (FC.Fin (c_eqKind x0 x1 x2) (AV.c (CV.v (Value.bool false))) []) (brP (x1 != x1) (FC.Fin (c_eqKind x0 x1 x2) (AV.c (CV.v (Value.bool false))) []) (brP (x2 != x2) (FC.Fin (c_eqKind x0 x1 x2) (AV.c (CV.v (Value.bool false))) []) (FC.Fin (c_eqKind x0 x1 x2) (AV.c (CV.v (Value.bool true))) [])))) (by kernel_rfl) ?_
  repeat' (first | (with_reducible refine And.intro ?_ ?_) | refine brN ?_ | refine brD (fun _ => ?_) (fun _ => ?_) | refine brE (fun _ => ?_) (fun _ => ?_) | refine brEn (fun _ => ?_) (fun _ => ?_) | refine brEb (fun _ => ?_) (fun _ => ?_) | refine brS (fun _ => ?_) (fun _ => ?_) | refine brI (fun _ => ?_) (fun _ => ?_) | omega | exact wrI (by omega) (by omega) | exact finV rfl rfl | exact absurd rfl ‹_› | fail)
noncomputable def e_eqKind : CE Try.prog := CE.pure 48 [.ag [.x, .x, .x], .ag [.x, .x, .x]] (fun
  | [.ag [.v (.string x0), .v (.int .i64 x1), .v (.int .i64 x2)], .ag [.v (.string y0), .v (.int .i64 y1), .v (.int .i64 y2)]] => some ([x0 = y0, x1 = y1, x2 = y2], bv true, [])
  | _ => none) (by
  intro ys q v hp1 h hq
  split at h <;> cases h
  exact (by have e := hq; simp only [andL] at e; obtain ⟨rfl, rfl, rfl, -⟩ := e; exact eqKind_sem _ _ _))
noncomputable def c_eqKinds (ls : List (List DV)) : FC := mkC Try.prog Try.f28 [0, 1, 4, 5] [0, 1, 4, 5, 10, 14, 26] [([1, 1, 0, 1, 0], [0, 1, 5])] [e_eqKind] 0 [] (bv true)
theorem eqKinds_of (ls : List (List DV)) (h : (c_eqKinds ls).At [] ⟨mkS 27 [(0, .c (.ro 50 ls)), (1, .c (.ro 50 ls))], []⟩) : FunSem Try.prog 28 [] [.c (.ro 50 ls), .c (.ro 50 ls)] [] (bv true) :=
  FC.sem (C := c_eqKinds ls) (m := 25) Try.func28 (by kernel_rfl) rfl rfl (by kernel_rfl) rfl rfl h
theorem eqKinds_l (ls : List (List DV)) (hS : Shp Try.prog 50 ls) (hl : ls.length ≤ 1048576) : ∀ (m : Nat) (i : Int), m = (ls.length - i).toNat → 0 ≤ i → i ≤ ls.length →
    (c_eqKinds ls).At [1, 1, 0, 1, 0] ⟨mkS 27 [(0, .c (.ro 50 ls)), (1, .c (.ro 50 ls)), (5, iv i)], []⟩ := by
  intro m
  induction m using Nat.strongRecOn with
  | _ m ih =>
    intro i hm h0 hn
    refine FC.loopB (by kernel_rfl) (by kernel_rfl) 100 (X := brP (decide (i < (↑(List.length ls) : Int))) ((0 : Int) ≤ i ∧ El Try.prog (50 : Nat) ls (Int.toNat i) ∧ (0 : Int) ≤ i ∧ El Try.prog (50 : Nat) ls (Int.toNat i) ∧ cS ls (Int.toNat i) (0 : Nat) = cS ls (Int.toNat i) (0 : Nat) ∧ cI ls (Int.toNat i) (1 : Nat) = cI ls (Int.toNat i) (1 : Nat) ∧ cI ls (Int.toNat i) (2 : Nat) = cI ls (Int.toNat i) (2 : Nat) ∧ IntKind.wrap IntKind.i64 (i + (1 : Int)) = i + (1 : Int) ∧ FC.At (c_eqKinds ls) [(1 : Nat), (1 : Nat), (0 : Nat), (1 : Nat), (0 : Nat)] { sl := mkS (27 : Nat) [((0 : Nat), AV.c (CV.ro (50 : Nat) ls)), ((1 : Nat), AV.c (CV.ro (50 : Nat) ls)), ((5 : Nat), AV.c (CV.v (Value.int IntKind.i64 (i + (1 : Int)))))], hp := [] }) (FC.Fin (c_eqKinds ls) (AV.c (CV.v (Value.bool true))) [])) (by kernel_rfl) ?_
    repeat' (first | (with_reducible refine And.intro ?_ ?_) | refine brN ?_ | refine brD (fun _ => ?_) (fun _ => ?_) | refine brE (fun _ => ?_) (fun _ => ?_) | refine brEn (fun _ => ?_) (fun _ => ?_) | refine brEb (fun _ => ?_) (fun _ => ?_) | refine brS (fun _ => ?_) (fun _ => ?_) | refine brI (fun _ => ?_) (fun _ => ?_) | omega | exact wrI (by omega) (by omega) | rfl | exact hS.el (by omega) | exact finV rfl rfl | exact ih _ (by omega) (i + 1) rfl (by omega) (by omega) | fail)
theorem eqKinds_sem (ls : List (List DV)) (hS : Shp Try.prog 50 ls) (hl : ls.length ≤ 1048576) : FunSem Try.prog 28 [] [.c (.ro 50 ls), .c (.ro 50 ls)] [] (bv true) := by
  refine eqKinds_of ls ?_
  refine FC.ev (by kernel_rfl) 100 (X := brP ((↑(List.length ls) : Int) != (↑(List.length ls) : Int)) (FC.Fin (c_eqKinds ls) (AV.c (CV.v (Value.bool false))) []) (FC.At (c_eqKinds ls) [(1 : Nat), (1 : Nat), (0 : Nat), (1 : Nat), (0 : Nat)] { sl := mkS (27 : Nat) [((0 : Nat), AV.c (CV.ro (50 : Nat) ls)), ((1 : Nat), AV.c (CV.ro (50 : Nat) ls)), ((5 : Nat), AV.c (CV.v (Value.int IntKind.i64 (0 : Int))))], hp := [] })) (by kernel_rfl) ?_
  repeat' (first | (with_reducible refine And.intro ?_ ?_) | refine brN ?_ | refine brD (fun _ => ?_) (fun _ => ?_) | refine brE (fun _ => ?_) (fun _ => ?_) | refine brEn (fun _ => ?_) (fun _ => ?_) | refine brEb (fun _ => ?_) (fun _ => ?_) | refine brS (fun _ => ?_) (fun _ => ?_) | refine brI (fun _ => ?_) (fun _ => ?_) | omega | exact wrI (by omega) (by omega) | exact absurd rfl ‹_› | exact eqKinds_l ls hS hl _ 0 rfl (by omega) (by omega) | fail)
noncomputable def e_eqKinds : CE Try.prog := CE.pure 28 [.c (.l 50), .c (.l 50)] (fun
  | [.c (.ro 50 ls), .c (.ro 50 ms)] => some ([ls = ms, Shp Try.prog 50 ls, ls.length ≤ 1048576], bv true, [])
  | _ => none) (by
  intro ys q v hp1 h hq
  split at h <;> cases h
  exact (by have e := hq; simp only [andL] at e; obtain ⟨rfl, h1, h2, -⟩ := e; exact eqKinds_sem _ h1 h2))
/-! PlanPoint -/
noncomputable def c_szPoint (x0 : ByteArray) (x1 : Int) (x2 : Int) (left : Int) : FC := mkC Try.prog Try.f41 [0, 1, 2, 4] [0, 1, 2, 4, 11] [] [] 0 [] (iv (szN [x0.size] left))
theorem szPoint_of (x0 : ByteArray) (x1 : Int) (x2 : Int) (left : Int) (h : (c_szPoint x0 x1 x2 left).At [] ⟨mkS 13 [(0, .ag [.v (.string x0), .v (.int .i64 x1), .v (.int .i64 x2)]), (1, iv left)], []⟩) : FunSem Try.prog 41 [] [.ag [.v (.string x0), .v (.int .i64 x1), .v (.int .i64 x2)], iv left] [] (iv (szN [x0.size] left)) :=
  FC.sem (C := c_szPoint x0 x1 x2 left) (m := 11) Try.func41 (by kernel_rfl) rfl rfl (by kernel_rfl) rfl rfl h
theorem szPoint_sem (x0 : ByteArray) (x1 : Int) (x2 : Int) (left : Int) (h0 : 0 ≤ left) (h1 : left ≤ 1048576) (h0 : x0.size ≤ 9223372036854775807) : FunSem Try.prog 41 [] [.ag [.v (.string x0), .v (.int .i64 x1), .v (.int .i64 x2)], iv left] [] (iv (szN [x0.size] left)) := by
  refine szPoint_of x0 x1 x2 left ?_
  refine FC.ev (by kernel_rfl) 100 (X := IntKind.wrap IntKind.i64 (left - (↑(ByteArray.size x0) : Int)) = left - (↑(ByteArray.size x0) : Int) ∧ brP (decide (left - (↑(ByteArray.size x0) : Int) < (0 : Int))) (FC.Fin (c_szPoint x0 x1 x2 left) (AV.c (CV.v (Value.int IntKind.i64 (-1 : Int)))) []) (FC.Fin (c_szPoint x0 x1 x2 left) (AV.c (CV.v (Value.int IntKind.i64 (left - (↑(ByteArray.size x0) : Int))))) [])) (by kernel_rfl) ?_
  repeat' (first | (with_reducible refine And.intro ?_ ?_) | refine brN ?_ | refine brD (fun _ => ?_) (fun _ => ?_) | refine brE (fun _ => ?_) (fun _ => ?_) | refine brEn (fun _ => ?_) (fun _ => ?_) | refine brEb (fun _ => ?_) (fun _ => ?_) | refine brS (fun _ => ?_) (fun _ => ?_) | refine brI (fun _ => ?_) (fun _ => ?_) | omega | exact wrI (by omega) (by omega) | refine finV (iv_eq ?_) rfl | fail)
  all_goals simp only [szN]
  all_goals (repeat' split)
  all_goals omega
noncomputable def e_szPoint : CE Try.prog := CE.pure 41 [.ag [.x, .x, .x], .c .x] (fun
  | [.ag [.v (.string x0), .v (.int .i64 x1), .v (.int .i64 x2)], .c (.v (.int .i64 left))] => some ([0 ≤ left, left ≤ 1048576, x0.size ≤ 9223372036854775807], iv (szN [x0.size] left), [])
  | _ => none) (by
  intro ys q v hp1 h hq
  split at h <;> cases h
  exact szPoint_sem _ _ _ _ hq.1 hq.2.1 hq.2.2.1)
noncomputable def c_szPoints (ls : List (List DV)) (left : Int) : FC := mkC Try.prog Try.f21 [0, 1, 4, 5] [0, 1, 4, 5, 11, 15, 25] [([1, 1, 1, 0, 1, 0], [0, 1, 5])] [e_szPoint] 0 [] (iv (szS [0] ls left))
theorem szPoints_of (ls : List (List DV)) (left : Int) (h : (c_szPoints ls left).At [] ⟨mkS 27 [(0, .c (.ro 74 ls)), (1, iv left)], []⟩) : FunSem Try.prog 21 [] [.c (.ro 74 ls), iv left] [] (iv (szS [0] ls left)) :=
  FC.sem (C := c_szPoints ls left) (m := 25) Try.func21 (by kernel_rfl) rfl rfl (by kernel_rfl) rfl rfl h
theorem szPoints_l (ls : List (List DV)) (left : Int) (hS : Shp Try.prog 74 ls) (hB : StrB [0] ls) (hl : ls.length ≤ 1048576) (hr0 : szS [0] ls left = szRows [0] ls (left - ls.length)) : ∀ (m : Nat) (l i : Int), m = (ls.length - i).toNat → 0 ≤ i → i ≤ ls.length → 0 ≤ l → l ≤ 1048576 → szRows [0] (ls.drop i.toNat) l = szS [0] ls left →
    (c_szPoints ls left).At [1, 1, 1, 0, 1, 0] ⟨mkS 27 [(0, .c (.ro 74 ls)), (1, iv l), (5, iv i)], []⟩ := by
  intro m
  induction m using Nat.strongRecOn with
  | _ m ih =>
    intro l i hm h0 hn hl0 hl1 hr
    refine FC.loopB (by kernel_rfl) (by kernel_rfl) 100 (X := brP (decide (i < (↑(List.length ls) : Int))) ((0 : Int) ≤ i ∧ El Try.prog (74 : Nat) ls (Int.toNat i) ∧ (0 : Int) ≤ l ∧ l ≤ (1048576 : Int) ∧ ByteArray.size (cS ls (Int.toNat i) (0 : Nat)) ≤ (9223372036854775807 : Nat) ∧ brP (decide (szN [ByteArray.size (cS ls (Int.toNat i) (0 : Nat))] l < (0 : Int))) (FC.Fin (c_szPoints ls left) (AV.c (CV.v (Value.int IntKind.i64 (-1 : Int)))) []) (IntKind.wrap IntKind.i64 (i + (1 : Int)) = i + (1 : Int) ∧ FC.At (c_szPoints ls left) [(1 : Nat), (1 : Nat), (1 : Nat), (0 : Nat), (1 : Nat), (0 : Nat)] { sl := mkS (27 : Nat) [((0 : Nat), AV.c (CV.ro (74 : Nat) ls)), ((1 : Nat), AV.c (CV.v (Value.int IntKind.i64 (szN [ByteArray.size (cS ls (Int.toNat i) (0 : Nat))] l)))), ((5 : Nat), AV.c (CV.v (Value.int IntKind.i64 (i + (1 : Int)))))], hp := [] })) (FC.Fin (c_szPoints ls left) (AV.c (CV.v (Value.int IntKind.i64 l))) [])) (by kernel_rfl) ?_
    have hstep : i < ls.length → szRows [0] (ls.drop i.toNat) l = if szN [(cS ls i.toNat 0).size] l < 0 then -1 else szRows [0] (ls.drop (i + 1).toNat) (szN [(cS ls i.toNat 0).size] l) := fun h => by
      rw [show (i + 1).toNat = i.toNat + 1 by omega]; exact szRows_drop [0] (by omega) l
    have hle := szN_le [(cS ls i.toNat 0).size] l
    repeat' (first | (with_reducible refine And.intro ?_ ?_) | refine brN ?_ | refine brD (fun _ => ?_) (fun _ => ?_) | refine brE (fun _ => ?_) (fun _ => ?_) | refine brEn (fun _ => ?_) (fun _ => ?_) | refine brEb (fun _ => ?_) (fun _ => ?_) | refine brS (fun _ => ?_) (fun _ => ?_) | refine brI (fun _ => ?_) (fun _ => ?_) | omega | exact wrI (by omega) (by omega) | exact hS.el (by omega) | exact hB i.toNat (by omega) _ (by simp) | exact finV (iv_eq (by rw [← hr, hstep ‹_›, if_pos ‹_›])) rfl | exact ih _ (by omega) _ (i + 1) rfl (by omega) (by omega) (by omega) (by omega) (by rw [← hr, hstep ‹_›, if_neg ‹_›]) | fail)
    refine finV (iv_eq ?_) rfl
    rw [← hr, List.drop_eq_nil_of_le (by omega)]; rfl
theorem szPoints_sem (ls : List (List DV)) (left : Int) (hS : Shp Try.prog 74 ls) (hB : StrB [0] ls) (hl : ls.length ≤ 9223372036854775807) (h0 : 0 ≤ left) (h1 : left ≤ 1048576) : FunSem Try.prog 21 [] [.c (.ro 74 ls), iv left] [] (iv (szS [0] ls left)) := by
  refine szPoints_of ls left ?_
  refine FC.ev (by kernel_rfl) 100 (X := IntKind.wrap IntKind.i64 (left - (↑(List.length ls) : Int)) = left - (↑(List.length ls) : Int) ∧ brP (decide (left - (↑(List.length ls) : Int) < (0 : Int))) (FC.Fin (c_szPoints ls left) (AV.c (CV.v (Value.int IntKind.i64 (-1 : Int)))) []) (FC.At (c_szPoints ls left) [(1 : Nat), (1 : Nat), (1 : Nat), (0 : Nat), (1 : Nat), (0 : Nat)] { sl := mkS (27 : Nat) [((0 : Nat), AV.c (CV.ro (74 : Nat) ls)), ((1 : Nat), AV.c (CV.v (Value.int IntKind.i64 (left - (↑(List.length ls) : Int))))), ((5 : Nat), AV.c (CV.v (Value.int IntKind.i64 (0 : Int))))], hp := [] })) (by kernel_rfl) ?_
  repeat' (first | (with_reducible refine And.intro ?_ ?_) | refine brN ?_ | refine brD (fun _ => ?_) (fun _ => ?_) | refine brE (fun _ => ?_) (fun _ => ?_) | refine brEn (fun _ => ?_) (fun _ => ?_) | refine brEb (fun _ => ?_) (fun _ => ?_) | refine brS (fun _ => ?_) (fun _ => ?_) | refine brI (fun _ => ?_) (fun _ => ?_) | omega | exact wrI (by omega) (by omega) | fail)
  · exact finV (iv_eq (by unfold szS; rw [if_pos ‹_›])) rfl
  · have e : szS [0] ls left = szRows [0] ls (left - ls.length) := by unfold szS; rw [if_neg ‹_›]
    exact szPoints_l ls left hS hB (by omega) e _ _ 0 rfl (by omega) (by omega) (by omega) (by omega) (by rw [e]; rfl)
noncomputable def e_szPoints : CE Try.prog := CE.pure 21 [.c (.l 74), .c .x] (fun
  | [.c (.ro 74 ls), .c (.v (.int .i64 left))] => some ([Shp Try.prog 74 ls, StrB [0] ls, ls.length ≤ 9223372036854775807, 0 ≤ left, left ≤ 1048576], iv (szS [0] ls left), [])
  | _ => none) (by
  intro ys q v hp1 h hq
  split at h <;> cases h
  exact szPoints_sem _ _ hq.1 hq.2.1 hq.2.2.1 hq.2.2.2.1 hq.2.2.2.2.1)
noncomputable def c_toPoint (x0 : ByteArray) (x1 : Int) (x2 : Int) : FC := mkC Try.prog Try.f45 [0, 1, 2, 3] [0, 1, 2, 3] [] [] 0 [] (.ag [.v (.string x0), .v (.int .i64 x1), .v (.int .i64 x2)])
theorem toPoint_of (x0 : ByteArray) (x1 : Int) (x2 : Int) (h : (c_toPoint x0 x1 x2).At [] ⟨mkS 14 [(0, .ag [.v (.string x0), .v (.int .i64 x1), .v (.int .i64 x2)])], []⟩) : FunSem Try.prog 45 [] [.ag [.v (.string x0), .v (.int .i64 x1), .v (.int .i64 x2)]] [] (.ag [.v (.string x0), .v (.int .i64 x1), .v (.int .i64 x2)]) :=
  FC.sem (C := c_toPoint x0 x1 x2) (m := 13) Try.func45 (by kernel_rfl) rfl rfl (by kernel_rfl) rfl rfl h
theorem toPoint_sem (x0 : ByteArray) (x1 : Int) (x2 : Int) : FunSem Try.prog 45 [] [.ag [.v (.string x0), .v (.int .i64 x1), .v (.int .i64 x2)]] [] (.ag [.v (.string x0), .v (.int .i64 x1), .v (.int .i64 x2)]) := by
  refine toPoint_of x0 x1 x2 ?_
  refine FC.ev (by kernel_rfl) 100 (X := FC.Fin (c_toPoint x0 x1 x2) (AV.ag [CV.v (Value.string x0), CV.v (Value.int IntKind.i64 x1), CV.v (Value.int IntKind.i64 x2)]) []) (by kernel_rfl) ?_
  exact finV rfl rfl
noncomputable def e_toPoint : CE Try.prog := CE.pure 45 [.ag [.x, .x, .x]] (fun
  | [.ag [.v (.string x0), .v (.int .i64 x1), .v (.int .i64 x2)]] => some ([], .ag [.v (.string x0), .v (.int .i64 x1), .v (.int .i64 x2)], [])
  | _ => none) (by
  intro ys q v hp1 h hq
  split at h <;> cases h
  exact toPoint_sem _ _ _)
noncomputable def c_toPoints (ls : List (List DV)) : FC := mkC Try.prog Try.f25 [0, 2, 3, 4] [0, 2, 3, 4, 11] [([1, 1, 0, 1, 0], [0, 3, 4])] [e_toPoint] 0 [some (.row true 53 ls)] (.c (.sl 0 ls.length))
theorem toPoints_of (ls : List (List DV)) (h : (c_toPoints ls).At [] ⟨mkS 23 [(0, .c (.ro 74 ls))], []⟩) : FunSem Try.prog 25 [] [.c (.ro 74 ls)] [some (.row true 53 ls)] (.c (.sl 0 ls.length)) :=
  FC.sem (C := c_toPoints ls) (m := 22) Try.func25 (by kernel_rfl) rfl rfl (by kernel_rfl) rfl rfl h
theorem toPoints_l (ls : List (List DV)) (hS : Shp Try.prog 74 ls) (hl : ls.length ≤ 1048576) : ∀ (m : Nat) (i : Int) (ms : List (List DV)) (n : Nat), m = (ls.length - i).toNat → 0 ≤ i → i ≤ ls.length → n = ms.length → ms.length = ls.length → Shp Try.prog 53 ms → (∀ j, j < i.toNat → ms[j]? = ls[j]?) →
    (c_toPoints ls).At [1, 1, 0, 1, 0] ⟨mkS 23 [(0, .c (.ro 74 ls)), (3, .c (.sl 0 n)), (4, iv i)], [some (.row true 53 ms)]⟩ := by
  intro m
  induction m using Nat.strongRecOn with
  | _ m ih =>
    intro i ms n hm h0 hn hn2 hlen hS2 hms
    refine FC.loopB (by kernel_rfl) (by kernel_rfl) 100 (X := brP (decide (i < (↑(List.length ls) : Int))) ((0 : Int) ≤ i ∧ El Try.prog (74 : Nat) ls (Int.toNat i) ∧ (0 : Int) ≤ i ∧ (n = List.length ms ∧ Int.toNat i < n) ∧ El Try.prog (53 : Nat) ms (Int.toNat i) ∧ IntKind.wrap IntKind.i64 (i + (1 : Int)) = i + (1 : Int) ∧ FC.At (c_toPoints ls) [(1 : Nat), (1 : Nat), (0 : Nat), (1 : Nat), (0 : Nat)] { sl := mkS (23 : Nat) [((0 : Nat), AV.c (CV.ro (74 : Nat) ls)), ((3 : Nat), AV.c (CV.sl (0 : Nat) n)), ((4 : Nat), AV.c (CV.v (Value.int IntKind.i64 (i + (1 : Int)))))], hp := [some (AB.row true (53 : Nat) (List.set ms (Int.toNat i) [DV.s (Value.string (cS ls (Int.toNat i) (0 : Nat))), DV.s (Value.int IntKind.i64 (cI ls (Int.toNat i) (1 : Nat))), DV.s (Value.int IntKind.i64 (cI ls (Int.toNat i) (2 : Nat)))]))] }) (FC.Fin (c_toPoints ls) (AV.c (CV.sl (0 : Nat) n)) [some (AB.row true (53 : Nat) ms)])) (by kernel_rfl) ?_
    repeat' (first | (with_reducible refine And.intro ?_ ?_) | refine brN ?_ | refine brD (fun _ => ?_) (fun _ => ?_) | refine brE (fun _ => ?_) (fun _ => ?_) | refine brEn (fun _ => ?_) (fun _ => ?_) | refine brEb (fun _ => ?_) (fun _ => ?_) | refine brS (fun _ => ?_) (fun _ => ?_) | refine brI (fun _ => ?_) (fun _ => ?_) | omega | exact wrI (by omega) (by omega) | exact hS.el (by omega) | exact hS2.el (by omega) | fail)
    · refine ih _ (by omega) (i + 1) _ _ rfl (by omega) (by omega) (by simp; omega) (by simp; omega) (hS2.set (by kernel_rfl)) (fun j hj => ?_)
      exact set_step hlen hms (by omega) (by omega) (hS.el (by omega))
    · have : ms = ls := List.ext_getElem? fun j => by
        by_cases hj : j < i.toNat
        · exact hms j hj
        · rw [List.getElem?_eq_none (by omega), List.getElem?_eq_none (by omega)]
      subst this; subst hn2; exact finV rfl rfl
theorem toPoints_sem (ls : List (List DV)) (hS : Shp Try.prog 74 ls) (hl : ls.length ≤ 1048576) : FunSem Try.prog 25 [] [.c (.ro 74 ls)] [some (.row true 53 ls)] (.c (.sl 0 ls.length)) := by
  refine toPoints_of ls ?_
  refine FC.ev (by kernel_rfl) 100 (X := ((0 : Int) ≤ (↑(List.length ls) : Int) ∧ (↑(List.length ls) : Int) ≤ (↑(List.length ls) : Int) ∧ (↑(List.length ls) : Int) ≤ (140737488355328 : Int) ∧ (↑(List.length ls) : Int) * (↑(32 : Nat) : Int) ≤ (281474976710656 : Int)) ∧ FC.At (c_toPoints ls) [(1 : Nat), (1 : Nat), (0 : Nat), (1 : Nat), (0 : Nat)] { sl := mkS (23 : Nat) [((0 : Nat), AV.c (CV.ro (74 : Nat) ls)), ((3 : Nat), AV.c (CV.sl (0 : Nat) (List.length (List.replicate (Int.toNat (↑(List.length ls) : Int)) [DV.s (Value.string { data := #[] }), DV.s (Value.int IntKind.i64 (0 : Int)), DV.s (Value.int IntKind.i64 (0 : Int))])))), ((4 : Nat), AV.c (CV.v (Value.int IntKind.i64 (0 : Int))))], hp := [some (AB.row true (53 : Nat) (List.replicate (Int.toNat (↑(List.length ls) : Int)) [DV.s (Value.string { data := #[] }), DV.s (Value.int IntKind.i64 (0 : Int)), DV.s (Value.int IntKind.i64 (0 : Int))]))] }) (by kernel_rfl) ?_
  repeat' (first | (with_reducible refine And.intro ?_ ?_) | refine brN ?_ | refine brD (fun _ => ?_) (fun _ => ?_) | refine brE (fun _ => ?_) (fun _ => ?_) | refine brEn (fun _ => ?_) (fun _ => ?_) | refine brEb (fun _ => ?_) (fun _ => ?_) | refine brS (fun _ => ?_) (fun _ => ?_) | refine brI (fun _ => ?_) (fun _ => ?_) | omega | exact wrI (by omega) (by omega) | fail)
  exact toPoints_l ls hS hl _ 0 _ _ rfl (by omega) (by omega) rfl (by simp) (Shp.replicate (by kernel_rfl)) (fun j hj => by omega)
noncomputable def e_toPoints : CE Try.prog := CE.pure 25 [.c (.l 74)] (fun
  | [.c (.ro 74 ls)] => some ([Shp Try.prog 74 ls, ls.length ≤ 1048576], .c (.sl 0 ls.length), [some (.row true 53 ls)])
  | _ => none) (by
  intro ys q v hp1 h hq
  split at h <;> cases h
  exact toPoints_sem _ hq.1 hq.2.1)
noncomputable def c_eqPoint (x0 : ByteArray) (x1 : Int) (x2 : Int) : FC := mkC Try.prog Try.f49 [0, 1, 2, 3, 4] [0, 1, 2, 3, 4, 9, 14, 19] [] [] 0 [] (bv true)
theorem eqPoint_of (x0 : ByteArray) (x1 : Int) (x2 : Int) (h : (c_eqPoint x0 x1 x2).At [] ⟨mkS 20 [(0, .ag [.v (.string x0), .v (.int .i64 x1), .v (.int .i64 x2)]), (1, .ag [.v (.string x0), .v (.int .i64 x1), .v (.int .i64 x2)])], []⟩) : FunSem Try.prog 49 [] [.ag [.v (.string x0), .v (.int .i64 x1), .v (.int .i64 x2)], .ag [.v (.string x0), .v (.int .i64 x1), .v (.int .i64 x2)]] [] (bv true) :=
  FC.sem (C := c_eqPoint x0 x1 x2) (m := 18) Try.func49 (by kernel_rfl) rfl rfl (by kernel_rfl) rfl rfl h
theorem eqPoint_sem (x0 : ByteArray) (x1 : Int) (x2 : Int) : FunSem Try.prog 49 [] [.ag [.v (.string x0), .v (.int .i64 x1), .v (.int .i64 x2)], .ag [.v (.string x0), .v (.int .i64 x1), .v (.int .i64 x2)]] [] (bv true) := by
  refine eqPoint_of x0 x1 x2 ?_
  refine FC.ev (by kernel_rfl) 100 (X := brP (!ByteArray.toList x0 == ByteArray.toList x0) (FC.Fin (c_eqPoint x0 x1 x2) (AV.c (CV.v (Value.bool false))) []) (brP (x1 != x1) (FC.Fin (c_eqPoint x0 x1 x2) (AV.c (CV.v (Value.bool false))) []) (brP (x2 != x2) (FC.Fin (c_eqPoint x0 x1 x2) (AV.c (CV.v (Value.bool false))) []) (FC.Fin (c_eqPoint x0 x1 x2) (AV.c (CV.v (Value.bool true))) [])))) (by kernel_rfl) ?_
  repeat' (first | (with_reducible refine And.intro ?_ ?_) | refine brN ?_ | refine brD (fun _ => ?_) (fun _ => ?_) | refine brE (fun _ => ?_) (fun _ => ?_) | refine brEn (fun _ => ?_) (fun _ => ?_) | refine brEb (fun _ => ?_) (fun _ => ?_) | refine brS (fun _ => ?_) (fun _ => ?_) | refine brI (fun _ => ?_) (fun _ => ?_) | omega | exact wrI (by omega) (by omega) | exact finV rfl rfl | exact absurd rfl ‹_› | fail)
noncomputable def e_eqPoint : CE Try.prog := CE.pure 49 [.ag [.x, .x, .x], .ag [.x, .x, .x]] (fun
  | [.ag [.v (.string x0), .v (.int .i64 x1), .v (.int .i64 x2)], .ag [.v (.string y0), .v (.int .i64 y1), .v (.int .i64 y2)]] => some ([x0 = y0, x1 = y1, x2 = y2], bv true, [])
  | _ => none) (by
  intro ys q v hp1 h hq
  split at h <;> cases h
  exact (by have e := hq; simp only [andL] at e; obtain ⟨rfl, rfl, rfl, -⟩ := e; exact eqPoint_sem _ _ _))
noncomputable def c_eqPoints (ls : List (List DV)) : FC := mkC Try.prog Try.f29 [0, 1, 4, 5] [0, 1, 4, 5, 10, 14, 26] [([1, 1, 0, 1, 0], [0, 1, 5])] [e_eqPoint] 0 [] (bv true)
theorem eqPoints_of (ls : List (List DV)) (h : (c_eqPoints ls).At [] ⟨mkS 27 [(0, .c (.ro 53 ls)), (1, .c (.ro 53 ls))], []⟩) : FunSem Try.prog 29 [] [.c (.ro 53 ls), .c (.ro 53 ls)] [] (bv true) :=
  FC.sem (C := c_eqPoints ls) (m := 25) Try.func29 (by kernel_rfl) rfl rfl (by kernel_rfl) rfl rfl h
theorem eqPoints_l (ls : List (List DV)) (hS : Shp Try.prog 53 ls) (hl : ls.length ≤ 1048576) : ∀ (m : Nat) (i : Int), m = (ls.length - i).toNat → 0 ≤ i → i ≤ ls.length →
    (c_eqPoints ls).At [1, 1, 0, 1, 0] ⟨mkS 27 [(0, .c (.ro 53 ls)), (1, .c (.ro 53 ls)), (5, iv i)], []⟩ := by
  intro m
  induction m using Nat.strongRecOn with
  | _ m ih =>
    intro i hm h0 hn
    refine FC.loopB (by kernel_rfl) (by kernel_rfl) 100 (X := brP (decide (i < (↑(List.length ls) : Int))) ((0 : Int) ≤ i ∧ El Try.prog (53 : Nat) ls (Int.toNat i) ∧ (0 : Int) ≤ i ∧ El Try.prog (53 : Nat) ls (Int.toNat i) ∧ cS ls (Int.toNat i) (0 : Nat) = cS ls (Int.toNat i) (0 : Nat) ∧ cI ls (Int.toNat i) (1 : Nat) = cI ls (Int.toNat i) (1 : Nat) ∧ cI ls (Int.toNat i) (2 : Nat) = cI ls (Int.toNat i) (2 : Nat) ∧ IntKind.wrap IntKind.i64 (i + (1 : Int)) = i + (1 : Int) ∧ FC.At (c_eqPoints ls) [(1 : Nat), (1 : Nat), (0 : Nat), (1 : Nat), (0 : Nat)] { sl := mkS (27 : Nat) [((0 : Nat), AV.c (CV.ro (53 : Nat) ls)), ((1 : Nat), AV.c (CV.ro (53 : Nat) ls)), ((5 : Nat), AV.c (CV.v (Value.int IntKind.i64 (i + (1 : Int)))))], hp := [] }) (FC.Fin (c_eqPoints ls) (AV.c (CV.v (Value.bool true))) [])) (by kernel_rfl) ?_
    repeat' (first | (with_reducible refine And.intro ?_ ?_) | refine brN ?_ | refine brD (fun _ => ?_) (fun _ => ?_) | refine brE (fun _ => ?_) (fun _ => ?_) | refine brEn (fun _ => ?_) (fun _ => ?_) | refine brEb (fun _ => ?_) (fun _ => ?_) | refine brS (fun _ => ?_) (fun _ => ?_) | refine brI (fun _ => ?_) (fun _ => ?_) | omega | exact wrI (by omega) (by omega) | rfl | exact hS.el (by omega) | exact finV rfl rfl | exact ih _ (by omega) (i + 1) rfl (by omega) (by omega) | fail)
theorem eqPoints_sem (ls : List (List DV)) (hS : Shp Try.prog 53 ls) (hl : ls.length ≤ 1048576) : FunSem Try.prog 29 [] [.c (.ro 53 ls), .c (.ro 53 ls)] [] (bv true) := by
  refine eqPoints_of ls ?_
  refine FC.ev (by kernel_rfl) 100 (X := brP ((↑(List.length ls) : Int) != (↑(List.length ls) : Int)) (FC.Fin (c_eqPoints ls) (AV.c (CV.v (Value.bool false))) []) (FC.At (c_eqPoints ls) [(1 : Nat), (1 : Nat), (0 : Nat), (1 : Nat), (0 : Nat)] { sl := mkS (27 : Nat) [((0 : Nat), AV.c (CV.ro (53 : Nat) ls)), ((1 : Nat), AV.c (CV.ro (53 : Nat) ls)), ((5 : Nat), AV.c (CV.v (Value.int IntKind.i64 (0 : Int))))], hp := [] })) (by kernel_rfl) ?_
  repeat' (first | (with_reducible refine And.intro ?_ ?_) | refine brN ?_ | refine brD (fun _ => ?_) (fun _ => ?_) | refine brE (fun _ => ?_) (fun _ => ?_) | refine brEn (fun _ => ?_) (fun _ => ?_) | refine brEb (fun _ => ?_) (fun _ => ?_) | refine brS (fun _ => ?_) (fun _ => ?_) | refine brI (fun _ => ?_) (fun _ => ?_) | omega | exact wrI (by omega) (by omega) | exact absurd rfl ‹_› | exact eqPoints_l ls hS hl _ 0 rfl (by omega) (by omega) | fail)
noncomputable def e_eqPoints : CE Try.prog := CE.pure 29 [.c (.l 53), .c (.l 53)] (fun
  | [.c (.ro 53 ls), .c (.ro 53 ms)] => some ([ls = ms, Shp Try.prog 53 ls, ls.length ≤ 1048576], bv true, [])
  | _ => none) (by
  intro ys q v hp1 h hq
  split at h <;> cases h
  exact (by have e := hq; simp only [andL] at e; obtain ⟨rfl, h1, h2, -⟩ := e; exact eqPoints_sem _ h1 h2))
end Go.Proofs.Ytekdfddodabfcaa
/- Contracts: the laws' functions over a base; the law FnExactPlanBaseOk. -/
namespace Go.Proofs.Ytekdfddodabfcaa
open Go.RowKit
set_option linter.unusedVariables false
set_option linter.unusedSimpArgs false
theorem Shp.conv {P : Program} {e e' : Nat} {ls : List (List DV)} (h : Shp P e ls) (he : shapeT P e' = shapeT P e := by kernel_rfl) : Shp P e' ls := fun cs hc => by rw [he]; exact h cs hc
theorem szS_le {js : List Nat} {ls : List (List DV)} {l : Int} (h : ¬ szS js ls l < 0) : szS js ls l ≤ l := (szS_ok (by omega)).1
def szB (ks ps : List (List DV)) (l : Int) : Int := if szS [0] ks l < 0 then -1 else if szS [0] ps (szS [0] ks l) < 0 then -1 else szS [0] ps (szS [0] ks l)
structure BaseB (P : Program) (a b : Nat) (ks ps : List (List DV)) : Prop where
  sk : Shp P a ks
  sp : Shp P b ps
  bk : StrB [0] ks
  bp : StrB [0] ps
  lk : ks.length ≤ 9223372036854775807
  lp : ps.length ≤ 9223372036854775807
noncomputable def c_szBase (ks ps : List (List DV)) (left : Int) : FC := mkC Try.prog Try.f5 [0, 1, 2, 4] [0, 1, 2, 4, 10, 16] [] [e_szKinds, e_szPoints] 0 [] (iv (szB ks ps left))
theorem szBase_of (ks ps : List (List DV)) (left : Int) (h : (c_szBase ks ps left).At [] ⟨mkS 18 [(0, .ag [.ro 72 ks, .ro 74 ps]), (1, iv left)], []⟩) : FunSem Try.prog 5 [] [.ag [.ro 72 ks, .ro 74 ps], iv left] [] (iv (szB ks ps left)) :=
  FC.sem (C := c_szBase ks ps left) (m := 16) Try.func5 (by kernel_rfl) rfl rfl (by kernel_rfl) rfl rfl h
theorem szBase_sem (ks ps : List (List DV)) (left : Int) (h : BaseB Try.prog 72 74 ks ps) (h0 : 0 ≤ left) (h1 : left ≤ 1048576) : FunSem Try.prog 5 [] [.ag [.ro 72 ks, .ro 74 ps], iv left] [] (iv (szB ks ps left)) := by
  obtain ⟨a1, a2, a3, a4, a5, a6⟩ := h
  refine szBase_of ks ps left ?_
  refine FC.ev (by kernel_rfl) 100 (X := Shp Try.prog (72 : Nat) ks ∧ StrB [(0 : Nat)] ks ∧ List.length ks ≤ (9223372036854775807 : Nat) ∧ (0 : Int) ≤ left ∧ left ≤ (1048576 : Int) ∧ brP (decide (szS [(0 : Nat)] ks left < (0 : Int))) (FC.Fin (c_szBase ks ps left) (AV.c (CV.v (Value.int IntKind.i64 (-1 : Int)))) []) (Shp Try.prog (74 : Nat) ps ∧ StrB [(0 : Nat)] ps ∧ List.length ps ≤ (9223372036854775807 : Nat) ∧ (0 : Int) ≤ szS [(0 : Nat)] ks left ∧ szS [(0 : Nat)] ks left ≤ (1048576 : Int) ∧ brP (decide (szS [(0 : Nat)] ps (szS [(0 : Nat)] ks left) < (0 : Int))) (FC.Fin (c_szBase ks ps left) (AV.c (CV.v (Value.int IntKind.i64 (-1 : Int)))) []) (FC.Fin (c_szBase ks ps left) (AV.c (CV.v (Value.int IntKind.i64 (szS [(0 : Nat)] ps (szS [(0 : Nat)] ks left))))) []))) (by kernel_rfl) ?_
  have e1 := @szS_le [0] ks left
  have e2 := @szS_le [0] ps (szS [0] ks left)
  repeat' (first | (with_reducible refine And.intro ?_ ?_) | refine brN ?_ | refine brD (fun _ => ?_) (fun _ => ?_) | refine brE (fun _ => ?_) (fun _ => ?_) | refine brEn (fun _ => ?_) (fun _ => ?_) | refine brEb (fun _ => ?_) (fun _ => ?_) | refine brS (fun _ => ?_) (fun _ => ?_) | refine brI (fun _ => ?_) (fun _ => ?_) | omega | exact wrI (by omega) (by omega) | exact a1 | exact a2 | exact a3 | exact a4 | exact a5 | exact a6 | (have := e1 ‹_›; omega) | refine finV (iv_eq ?_) rfl | fail)
  all_goals unfold szB
  all_goals (repeat' split)
  all_goals first | rfl | contradiction
noncomputable def e_szBase : CE Try.prog := CE.pure 5 [.ag [.l 72, .l 74], .c .x] (fun
  | [.ag [.ro 72 ks, .ro 74 ps], .c (.v (.int .i64 left))] => some ([BaseB Try.prog 72 74 ks ps, 0 ≤ left, left ≤ 1048576], iv (szB ks ps left), [])
  | _ => none) (by
  intro ys q v hp1 h hq
  split at h <;> cases h
  exact szBase_sem _ _ _ hq.1 hq.2.1 hq.2.2.1)
noncomputable def c_toBase (ks ps : List (List DV)) : FC := mkC Try.prog Try.f7 [0, 1, 2, 3] [0, 1, 2, 3] [] [e_toKinds, e_toPoints] 0 [some (.row true 50 ks), some (.row true 53 ps)] (.ag [.sl 0 ks.length, .sl 1 ps.length])
theorem toBase_of (ks ps : List (List DV)) (h : (c_toBase ks ps).At [] ⟨mkS 13 [(0, .ag [.ro 72 ks, .ro 74 ps])], []⟩) : FunSem Try.prog 7 [] [.ag [.ro 72 ks, .ro 74 ps]] [some (.row true 50 ks), some (.row true 53 ps)] (.ag [.sl 0 ks.length, .sl 1 ps.length]) :=
  FC.sem (C := c_toBase ks ps) (m := 12) Try.func7 (by kernel_rfl) rfl rfl (by kernel_rfl) rfl rfl h
theorem toBase_sem (ks ps : List (List DV)) (h1 : Shp Try.prog 72 ks) (h2 : Shp Try.prog 74 ps) (h3 : ks.length ≤ 1048576) (h4 : ps.length ≤ 1048576) : FunSem Try.prog 7 [] [.ag [.ro 72 ks, .ro 74 ps]] [some (.row true 50 ks), some (.row true 53 ps)] (.ag [.sl 0 ks.length, .sl 1 ps.length]) := by
  refine toBase_of ks ps ?_
  refine FC.ev (by kernel_rfl) 100 (X := Shp Try.prog (72 : Nat) ks ∧ List.length ks ≤ (1048576 : Nat) ∧ Shp Try.prog (74 : Nat) ps ∧ List.length ps ≤ (1048576 : Nat) ∧ FC.Fin (c_toBase ks ps) (AV.ag [CV.sl (0 : Nat) (List.length ks), CV.sl (1 : Nat) (List.length ps)]) [some (AB.row true (50 : Nat) ks), some (AB.row true (53 : Nat) ps)]) (by kernel_rfl) ?_
  repeat' (first | (with_reducible refine And.intro ?_ ?_) | refine brN ?_ | refine brD (fun _ => ?_) (fun _ => ?_) | refine brE (fun _ => ?_) (fun _ => ?_) | refine brEn (fun _ => ?_) (fun _ => ?_) | refine brEb (fun _ => ?_) (fun _ => ?_) | refine brS (fun _ => ?_) (fun _ => ?_) | refine brI (fun _ => ?_) (fun _ => ?_) | omega | exact wrI (by omega) (by omega) | exact h1 | exact h2 | exact finV rfl rfl | fail)
noncomputable def e_toBase : CE Try.prog := CE.pure 7 [.ag [.l 72, .l 74]] (fun
  | [.ag [.ro 72 ks, .ro 74 ps]] => some ([Shp Try.prog 72 ks, Shp Try.prog 74 ps, ks.length ≤ 1048576, ps.length ≤ 1048576], .ag [.sl 0 ks.length, .sl 1 ps.length], [some (.row true 50 ks), some (.row true 53 ps)])
  | _ => none) (by
  intro ys q v hp1 h hq
  split at h <;> cases h
  exact toBase_sem _ _ hq.1 hq.2.1 hq.2.2.1 hq.2.2.2.1)
noncomputable def c_eqBase (ks ps : List (List DV)) : FC := mkC Try.prog Try.f9 [0, 1, 2, 3, 4] [0, 1, 2, 3, 4, 10, 16] [] [e_eqKinds, e_eqPoints] 0 [] (bv true)
theorem eqBase_of (ks ps : List (List DV)) (h : (c_eqBase ks ps).At [] ⟨mkS 17 [(0, .ag [.ro 50 ks, .ro 53 ps]), (1, .ag [.ro 50 ks, .ro 53 ps])], []⟩) : FunSem Try.prog 9 [] [.ag [.ro 50 ks, .ro 53 ps], .ag [.ro 50 ks, .ro 53 ps]] [] (bv true) :=
  FC.sem (C := c_eqBase ks ps) (m := 15) Try.func9 (by kernel_rfl) rfl rfl (by kernel_rfl) rfl rfl h
theorem eqBase_sem (ks ps : List (List DV)) (h1 : Shp Try.prog 50 ks) (h2 : Shp Try.prog 53 ps) (h3 : ks.length ≤ 1048576) (h4 : ps.length ≤ 1048576) : FunSem Try.prog 9 [] [.ag [.ro 50 ks, .ro 53 ps], .ag [.ro 50 ks, .ro 53 ps]] [] (bv true) := by
  refine eqBase_of ks ps ?_
  refine FC.ev (by kernel_rfl) 100 (X := ks = ks ∧ Shp Try.prog (50 : Nat) ks ∧ List.length ks ≤ (1048576 : Nat) ∧ ps = ps ∧ Shp Try.prog (53 : Nat) ps ∧ List.length ps ≤ (1048576 : Nat) ∧ FC.Fin (c_eqBase ks ps) (AV.c (CV.v (Value.bool true))) []) (by kernel_rfl) ?_
  repeat' (first | (with_reducible refine And.intro ?_ ?_) | refine brN ?_ | refine brD (fun _ => ?_) (fun _ => ?_) | refine brE (fun _ => ?_) (fun _ => ?_) | refine brEn (fun _ => ?_) (fun _ => ?_) | refine brEb (fun _ => ?_) (fun _ => ?_) | refine brS (fun _ => ?_) (fun _ => ?_) | refine brI (fun _ => ?_) (fun _ => ?_) | omega | exact wrI (by omega) (by omega) | exact h1 | exact h2 | rfl | exact finV rfl rfl | fail)
noncomputable def e_eqBase : CE Try.prog := CE.pure 9 [.ag [.l 50, .l 53], .ag [.l 50, .l 53]] (fun
  | [.ag [.ro 50 ks, .ro 53 ps], .ag [.ro 50 ks', .ro 53 ps']] => some ([ks = ks', ps = ps', Shp Try.prog 50 ks, Shp Try.prog 53 ps, ks.length ≤ 1048576, ps.length ≤ 1048576], bv true, [])
  | _ => none) (by
  intro ys q v hp1 h hq
  split at h <;> cases h
  exact (by have e := hq; simp only [andL] at e; obtain ⟨rfl, rfl, h1, h2, h3, h4, -⟩ := e; exact eqBase_sem _ _ h1 h2 h3 h4))
noncomputable def c_lawB (ks ps : List (List DV)) : FC := mkC Try.prog Try.f3 [0, 1, 2, 3, 4, 5, 6] [0, 1, 2, 3, 4, 5, 6, 11, 21, 26] [] [e_szBase, e_toBase, e_bo1, e_bo2, e_eqBase] 0 [] (bv true)
theorem lawB_of (ks ps : List (List DV)) (h : (c_lawB ks ps).At [] ⟨mkS 27 [(0, .ag [.ro 72 ks, .ro 74 ps])], []⟩) : FunSem Try.prog 3 [] [.ag [.ro 72 ks, .ro 74 ps]] [] (bv true) :=
  FC.sem (C := c_lawB ks ps) (m := 26) Try.func3 (by kernel_rfl) rfl rfl (by kernel_rfl) rfl rfl h
theorem szB_ok {ks ps : List (List DV)} {l : Int} (h : ¬ szB ks ps l < 0) : (ks.length : Int) ≤ l ∧ (ps.length : Int) ≤ l := by
  unfold szB at h
  split at h
  · omega
  · split at h
    · omega
    · rename_i h1 h2
      have a := szS_ok (js := [0]) (ls := ks) (l := l) (by omega)
      have b := szS_ok (js := [0]) (ls := ps) (l := szS [0] ks l) (by omega)
      omega
theorem lawB_sem (ks ps : List (List DV)) (h : BaseB Try.prog 72 74 ks ps) : FunSem Try.prog 3 [] [.ag [.ro 72 ks, .ro 74 ps]] [] (bv true) := by
  refine lawB_of ks ps ?_
  refine FC.ev (by kernel_rfl) 100 (X := BaseB Try.prog (72 : Nat) (74 : Nat) ks ps ∧ (0 : Int) ≤ (1048576 : Int) ∧ (1048576 : Int) ≤ (1048576 : Int) ∧ brP (decide (szB ks ps (1048576 : Int) < (0 : Int))) (FC.Fin (c_lawB ks ps) (AV.c (CV.v (Value.bool true))) []) (Shp Try.prog (72 : Nat) ks ∧ Shp Try.prog (74 : Nat) ps ∧ List.length ks ≤ (1048576 : Nat) ∧ List.length ps ≤ (1048576 : Nat) ∧ List.length ks = List.length ks ∧ List.length ps = List.length ps ∧ Shp Try.prog (50 : Nat) ks ∧ Shp Try.prog (53 : Nat) ps ∧ Shp Try.prog (72 : Nat) ks ∧ Shp Try.prog (74 : Nat) ps ∧ List.length ks ≤ (1048576 : Nat) ∧ List.length ps ≤ (1048576 : Nat) ∧ List.length ks = List.length ks ∧ List.length ps = List.length ps ∧ Shp Try.prog (50 : Nat) ks ∧ Shp Try.prog (53 : Nat) ps ∧ brP (!baseB ks ps == baseB ks ps) (FC.Fin (c_lawB ks ps) (AV.c (CV.v (Value.bool false))) []) (Shp Try.prog (72 : Nat) ks ∧ Shp Try.prog (74 : Nat) ps ∧ List.length ks ≤ (1048576 : Nat) ∧ List.length ps ≤ (1048576 : Nat) ∧ List.length ks = List.length ks ∧ List.length ps = List.length ps ∧ List.length ks = List.length ks ∧ List.length ps = List.length ps ∧ ks = ks ∧ ps = ps ∧ Shp Try.prog (50 : Nat) ks ∧ Shp Try.prog (53 : Nat) ps ∧ List.length ks ≤ (1048576 : Nat) ∧ List.length ps ≤ (1048576 : Nat) ∧ FC.Fin (c_lawB ks ps) (AV.c (CV.v (Value.bool true))) []))) (by kernel_rfl) ?_
  have e1 := @szB_ok ks ps 1048576
  have b1 := h.sk
  have b2 := h.sp
  have b3 : Shp Try.prog 50 ks := b1.conv
  have b4 : Shp Try.prog 53 ps := b2.conv
  repeat' (first | (with_reducible refine And.intro ?_ ?_) | refine brN ?_ | refine brD (fun _ => ?_) (fun _ => ?_) | refine brE (fun _ => ?_) (fun _ => ?_) | refine brEn (fun _ => ?_) (fun _ => ?_) | refine brEb (fun _ => ?_) (fun _ => ?_) | refine brS (fun _ => ?_) (fun _ => ?_) | refine brI (fun _ => ?_) (fun _ => ?_) | omega | exact wrI (by omega) (by omega) | exact h | (have := e1 ‹_›; omega) | exact b1 | exact b2 | exact b3 | exact b4 | rfl | exact finV rfl rfl | exact absurd rfl ‹_› | fail)
end Go.Proofs.Ytekdfddodabfcaa
