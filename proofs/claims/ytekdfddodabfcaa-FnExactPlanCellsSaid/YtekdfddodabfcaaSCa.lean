/- Contracts: ranges and names. -/
import Derived.Test.YtekdfddodabfcaaRf
import Derived.Test.YtekdfddodabfcaaRows
import Derived.Test.YtekdfddodabfcaaRg
namespace Go.Proofs.Ytekdfddodabfcaa
open Go.RowKit
set_option linter.unusedVariables false
set_option linter.unusedSimpArgs false
def rangeB (n lo hi : Int) : Bool := decide (lo ≤ n) && decide (n ≤ hi)
noncomputable def c_in1 (n lo hi : Int) : FC := mkC Try.prog Try.f43 [0, 1, 2, 6] [0, 1, 2, 6] [] [] 0 [] (bv (rangeB n lo hi))
theorem in1_of (n lo hi : Int) (h : (c_in1 n lo hi).At [] ⟨mkS 15 [(0, iv n), (1, iv lo), (2, iv hi)], []⟩) : FunSem Try.prog 43 [] [iv n, iv lo, iv hi] [] (bv (rangeB n lo hi)) :=
  FC.sem (C := c_in1 n lo hi) (m := 12) Try.func43 (by kernel_rfl) rfl rfl (by kernel_rfl) rfl rfl h
theorem in1_sem (n lo hi : Int) : FunSem Try.prog 43 [] [iv n, iv lo, iv hi] [] (bv (rangeB n lo hi)) := by
  refine in1_of n lo hi ?_
  refine FC.ev (by kernel_rfl) 100 (X := brP (decide (n ≥ lo)) (FC.Fin (c_in1 n lo hi) (AV.c (CV.v (Value.bool (decide (n ≤ hi))))) []) (FC.Fin (c_in1 n lo hi) (AV.c (CV.v (Value.bool false))) [])) (by kernel_rfl) ?_
  refine brD (fun h => ⟨bv_eq ?_, rfl⟩) (fun h => ⟨bv_eq ?_, rfl⟩) <;> unfold rangeB
  · simp; omega
  · simp; omega
noncomputable def e_in1 : CE Try.prog := CE.pure 43 [.c .x, .c .x, .c .x] (fun
  | [.c (.v (.int .i64 n)), .c (.v (.int .i64 lo)), .c (.v (.int .i64 hi))] => some ([], bv (rangeB n lo hi), [])
  | _ => none) (by
  intro ys q v hp1 h hq
  split at h <;> cases h
  exact in1_sem _ _ _)
def okc (b : UInt8) : Bool := (decide (97 ≤ b.toNat) && decide (b.toNat ≤ 122)) || (decide (48 ≤ b.toNat) && decide (b.toNat ≤ 57)) || decide (b.toNat = 45)
def nameB (s : ByteArray) : Bool := decide (1 ≤ s.size) && decide (s.size ≤ 8) && s.data.toList.all okc
theorem nameB_false {s : ByteArray} {i : Nat} (h : i < s.size) (hp : okc (bAt s i) = false) : nameB s = false := by
  unfold nameB; rw [allB_false h hp]; simp
noncomputable def c_nm1 (s : ByteArray) : FC := mkC Try.prog Try.f42 [0, 2, 3, 4] [0, 2, 3, 4, 8, 12, 36] [([1, 1, 0, 1, 0], [0, 3])] [e_in1] 0 [] (bv (nameB s))
theorem nm1_of (s : ByteArray) (h : (c_nm1 s).At [] ⟨mkS 37 [(0, sv s)], []⟩) : FunSem Try.prog 42 [] [sv s] [] (bv (nameB s)) :=
  FC.sem (C := c_nm1 s) (m := 36) Try.func42 (by kernel_rfl) rfl rfl (by kernel_rfl) rfl rfl h
theorem nm1_l (s : ByteArray) (h1 : 1 ≤ s.size) (h8 : s.size ≤ 8) : ∀ (m : Nat) (i : Int), m = (s.size - i).toNat → 0 ≤ i → i ≤ s.size → (∀ j : Nat, j < i.toNat → okc (bAt s j) = true) → (c_nm1 s).At [1, 1, 0, 1, 0] ⟨mkS 37 [(0, sv s), (3, iv i)], []⟩ := by
  intro m
  induction m using Nat.strongRecOn with
  | _ m ih =>
    intro i hm h0 hn hall
    refine FC.loopB (by kernel_rfl) (by kernel_rfl) 100 (X := brP (decide (i < (↑(ByteArray.size s) : Int))) (((0 : Int) ≤ i ∧ Int.toNat i < ByteArray.size s) ∧ brP (decide ((↑(UInt8.toNat (bAt s (Int.toNat i))) : Int) ≥ (97 : Int))) (brP (decide ((↑(UInt8.toNat (bAt s (Int.toNat i))) : Int) ≤ (122 : Int))) (IntKind.wrap IntKind.i64 (i + (1 : Int)) = i + (1 : Int) ∧ FC.At (c_nm1 s) [(1 : Nat), (1 : Nat), (0 : Nat), (1 : Nat), (0 : Nat)] { sl := mkS (37 : Nat) [((0 : Nat), AV.c (CV.v (Value.string s))), ((3 : Nat), AV.c (CV.v (Value.int IntKind.i64 (i + (1 : Int)))))], hp := [] }) (brP (decide ((↑(UInt8.toNat (bAt s (Int.toNat i))) : Int) ≥ (48 : Int))) (brP (decide ((↑(UInt8.toNat (bAt s (Int.toNat i))) : Int) ≤ (57 : Int))) (IntKind.wrap IntKind.i64 (i + (1 : Int)) = i + (1 : Int) ∧ FC.At (c_nm1 s) [(1 : Nat), (1 : Nat), (0 : Nat), (1 : Nat), (0 : Nat)] { sl := mkS (37 : Nat) [((0 : Nat), AV.c (CV.v (Value.string s))), ((3 : Nat), AV.c (CV.v (Value.int IntKind.i64 (i + (1 : Int)))))], hp := [] }) (brP (!(↑(UInt8.toNat (bAt s (Int.toNat i))) : Int) == (45 : Int)) (FC.Fin (c_nm1 s) (AV.c (CV.v (Value.bool false))) []) (IntKind.wrap IntKind.i64 (i + (1 : Int)) = i + (1 : Int) ∧ FC.At (c_nm1 s) [(1 : Nat), (1 : Nat), (0 : Nat), (1 : Nat), (0 : Nat)] { sl := mkS (37 : Nat) [((0 : Nat), AV.c (CV.v (Value.string s))), ((3 : Nat), AV.c (CV.v (Value.int IntKind.i64 (i + (1 : Int)))))], hp := [] }))) (brP (!(↑(UInt8.toNat (bAt s (Int.toNat i))) : Int) == (45 : Int)) (FC.Fin (c_nm1 s) (AV.c (CV.v (Value.bool false))) []) (IntKind.wrap IntKind.i64 (i + (1 : Int)) = i + (1 : Int) ∧ FC.At (c_nm1 s) [(1 : Nat), (1 : Nat), (0 : Nat), (1 : Nat), (0 : Nat)] { sl := mkS (37 : Nat) [((0 : Nat), AV.c (CV.v (Value.string s))), ((3 : Nat), AV.c (CV.v (Value.int IntKind.i64 (i + (1 : Int)))))], hp := [] })))) (brP (decide ((↑(UInt8.toNat (bAt s (Int.toNat i))) : Int) ≥ (48 : Int))) (brP (decide ((↑(UInt8.toNat (bAt s (Int.toNat i))) : Int) ≤ (57 : Int))) (IntKind.wrap IntKind.i64 (i + (1 : Int)) = i + (1 : Int) ∧ FC.At (c_nm1 s) [(1 : Nat), (1 : Nat), (0 : Nat), (1 : Nat), (0 : Nat)] { sl := mkS (37 : Nat) [((0 : Nat), AV.c (CV.v (Value.string s))), ((3 : Nat), AV.c (CV.v (Value.int IntKind.i64 (i + (1 : Int)))))], hp := [] }) (brP (!(↑(UInt8.toNat (bAt s (Int.toNat i))) : Int) == (45 : Int)) (FC.Fin (c_nm1 s) (AV.c (CV.v (Value.bool false))) []) (IntKind.wrap IntKind.i64 (i + (1 : Int)) = i + (1 : Int) ∧ FC.At (c_nm1 s) [(1 : Nat), (1 : Nat), (0 : Nat), (1 : Nat), (0 : Nat)] { sl := mkS (37 : Nat) [((0 : Nat), AV.c (CV.v (Value.string s))), ((3 : Nat), AV.c (CV.v (Value.int IntKind.i64 (i + (1 : Int)))))], hp := [] }))) (brP (!(↑(UInt8.toNat (bAt s (Int.toNat i))) : Int) == (45 : Int)) (FC.Fin (c_nm1 s) (AV.c (CV.v (Value.bool false))) []) (IntKind.wrap IntKind.i64 (i + (1 : Int)) = i + (1 : Int) ∧ FC.At (c_nm1 s) [(1 : Nat), (1 : Nat), (0 : Nat), (1 : Nat), (0 : Nat)] { sl := mkS (37 : Nat) [((0 : Nat), AV.c (CV.v (Value.string s))), ((3 : Nat), AV.c (CV.v (Value.int IntKind.i64 (i + (1 : Int)))))], hp := [] })))) (FC.Fin (c_nm1 s) (AV.c (CV.v (Value.bool true))) [])) (by kernel_rfl) ?_
    have next : i < s.size → okc (bAt s i.toNat) = true → (c_nm1 s).At [1, 1, 0, 1, 0] ⟨mkS 37 [(0, sv s), (3, iv (i + 1))], []⟩ := fun h hok =>
      ih (s.size - (i + 1)).toNat (by omega) (i + 1) rfl (by omega) (by omega) fun j hj => by
        by_cases e : j = i.toNat
        · rw [e]; exact hok
        · exact hall j (by omega)
    refine brD (fun h => ⟨⟨h0, by omega⟩, ?_⟩) (fun h => ⟨bv_eq ?_, rfl⟩)
    · have hf : okc (bAt s i.toNat) = false → false = nameB s := fun hf => (nameB_false (by omega) hf).symm
      repeat' (first | refine brD (fun _ => ?_) (fun _ => ?_) | refine brN ?_ | refine brE (fun _ => ?_) (fun _ => ?_) | refine ⟨wrI (by omega) (by omega), next h ?_⟩ | refine finV (bv_eq (hf ?_)) rfl | fail)
      all_goals simp [okc]
      all_goals omega
    · unfold nameB
      rw [allB_iff.2 fun j hj => hall j (by omega)]
      simp [h1, h8]
theorem nm1_sem (s : ByteArray) : FunSem Try.prog 42 [] [sv s] [] (bv (nameB s)) := by
  refine nm1_of s ?_
  refine FC.ev (by kernel_rfl) 100 (X := brP (!rangeB (↑(ByteArray.size s) : Int) (1 : Int) (8 : Int)) (FC.Fin (c_nm1 s) (AV.c (CV.v (Value.bool false))) []) (FC.At (c_nm1 s) [(1 : Nat), (1 : Nat), (0 : Nat), (1 : Nat), (0 : Nat)] { sl := mkS (37 : Nat) [((0 : Nat), AV.c (CV.v (Value.string s))), ((3 : Nat), AV.c (CV.v (Value.int IntKind.i64 (0 : Int))))], hp := [] })) (by kernel_rfl) ?_
  refine brN (brI (fun h => ?_) (fun h => finV (bv_eq ?_) rfl))
  · simp [rangeB] at h
    exact nm1_l s (by omega) (by omega) _ 0 rfl (by omega) (by omega) (by omega)
  · simp [rangeB] at h
    simp [nameB]; omega
noncomputable def e_nm1 : CE Try.prog := CE.pure 42 [.c .x] (fun
  | [.c (.v (.string s))] => some ([], bv (nameB s), [])
  | _ => none) (by
  intro ys q v hp1 h hq
  split at h <;> cases h
  exact nm1_sem _)
/-! The program's own. -/
noncomputable def c_in2 (n lo hi : Int) : FC := mkC Try.prog Try.f47 [0, 1, 2, 6] [0, 1, 2, 6] [] [] 0 [] (bv (rangeB n lo hi))
theorem in2_of (n lo hi : Int) (h : (c_in2 n lo hi).At [] ⟨mkS 15 [(0, iv n), (1, iv lo), (2, iv hi)], []⟩) : FunSem Try.prog 47 [] [iv n, iv lo, iv hi] [] (bv (rangeB n lo hi)) :=
  FC.sem (C := c_in2 n lo hi) (m := 12) Try.func47 (by kernel_rfl) rfl rfl (by kernel_rfl) rfl rfl h
theorem in2_sem (n lo hi : Int) : FunSem Try.prog 47 [] [iv n, iv lo, iv hi] [] (bv (rangeB n lo hi)) := by
  refine in2_of n lo hi ?_
  refine FC.ev (by kernel_rfl) 100 (X := brP (decide (n ≥ lo)) (FC.Fin (c_in2 n lo hi) (AV.c (CV.v (Value.bool (decide (n ≤ hi))))) []) (FC.Fin (c_in2 n lo hi) (AV.c (CV.v (Value.bool false))) [])) (by kernel_rfl) ?_
  refine brD (fun h => ⟨bv_eq ?_, rfl⟩) (fun h => ⟨bv_eq ?_, rfl⟩) <;> unfold rangeB
  · simp; omega
  · simp; omega
noncomputable def e_in2 : CE Try.prog := CE.pure 47 [.c .x, .c .x, .c .x] (fun
  | [.c (.v (.int .i64 n)), .c (.v (.int .i64 lo)), .c (.v (.int .i64 hi))] => some ([], bv (rangeB n lo hi), [])
  | _ => none) (by
  intro ys q v hp1 h hq
  split at h <;> cases h
  exact in2_sem _ _ _)
noncomputable def c_nm2 (s : ByteArray) : FC := mkC Try.prog Try.f46 [0, 2, 3, 4] [0, 2, 3, 4, 8, 12, 36] [([1, 1, 0, 1, 0], [0, 3])] [e_in2] 0 [] (bv (nameB s))
theorem nm2_of (s : ByteArray) (h : (c_nm2 s).At [] ⟨mkS 37 [(0, sv s)], []⟩) : FunSem Try.prog 46 [] [sv s] [] (bv (nameB s)) :=
  FC.sem (C := c_nm2 s) (m := 36) Try.func46 (by kernel_rfl) rfl rfl (by kernel_rfl) rfl rfl h
theorem nm2_l (s : ByteArray) (h1 : 1 ≤ s.size) (h8 : s.size ≤ 8) : ∀ (m : Nat) (i : Int), m = (s.size - i).toNat → 0 ≤ i → i ≤ s.size → (∀ j : Nat, j < i.toNat → okc (bAt s j) = true) → (c_nm2 s).At [1, 1, 0, 1, 0] ⟨mkS 37 [(0, sv s), (3, iv i)], []⟩ := by
  intro m
  induction m using Nat.strongRecOn with
  | _ m ih =>
    intro i hm h0 hn hall
    refine FC.loopB (by kernel_rfl) (by kernel_rfl) 100 (X := brP (decide (i < (↑(ByteArray.size s) : Int))) (((0 : Int) ≤ i ∧ Int.toNat i < ByteArray.size s) ∧ brP (decide ((↑(UInt8.toNat (bAt s (Int.toNat i))) : Int) ≥ (97 : Int))) (brP (decide ((↑(UInt8.toNat (bAt s (Int.toNat i))) : Int) ≤ (122 : Int))) (IntKind.wrap IntKind.i64 (i + (1 : Int)) = i + (1 : Int) ∧ FC.At (c_nm2 s) [(1 : Nat), (1 : Nat), (0 : Nat), (1 : Nat), (0 : Nat)] { sl := mkS (37 : Nat) [((0 : Nat), AV.c (CV.v (Value.string s))), ((3 : Nat), AV.c (CV.v (Value.int IntKind.i64 (i + (1 : Int)))))], hp := [] }) (brP (decide ((↑(UInt8.toNat (bAt s (Int.toNat i))) : Int) ≥ (48 : Int))) (brP (decide ((↑(UInt8.toNat (bAt s (Int.toNat i))) : Int) ≤ (57 : Int))) (IntKind.wrap IntKind.i64 (i + (1 : Int)) = i + (1 : Int) ∧ FC.At (c_nm2 s) [(1 : Nat), (1 : Nat), (0 : Nat), (1 : Nat), (0 : Nat)] { sl := mkS (37 : Nat) [((0 : Nat), AV.c (CV.v (Value.string s))), ((3 : Nat), AV.c (CV.v (Value.int IntKind.i64 (i + (1 : Int)))))], hp := [] }) (brP (!(↑(UInt8.toNat (bAt s (Int.toNat i))) : Int) == (45 : Int)) (FC.Fin (c_nm2 s) (AV.c (CV.v (Value.bool false))) []) (IntKind.wrap IntKind.i64 (i + (1 : Int)) = i + (1 : Int) ∧ FC.At (c_nm2 s) [(1 : Nat), (1 : Nat), (0 : Nat), (1 : Nat), (0 : Nat)] { sl := mkS (37 : Nat) [((0 : Nat), AV.c (CV.v (Value.string s))), ((3 : Nat), AV.c (CV.v (Value.int IntKind.i64 (i + (1 : Int)))))], hp := [] }))) (brP (!(↑(UInt8.toNat (bAt s (Int.toNat i))) : Int) == (45 : Int)) (FC.Fin (c_nm2 s) (AV.c (CV.v (Value.bool false))) []) (IntKind.wrap IntKind.i64 (i + (1 : Int)) = i + (1 : Int) ∧ FC.At (c_nm2 s) [(1 : Nat), (1 : Nat), (0 : Nat), (1 : Nat), (0 : Nat)] { sl := mkS (37 : Nat) [((0 : Nat), AV.c (CV.v (Value.string s))), ((3 : Nat), AV.c (CV.v (Value.int IntKind.i64 (i + (1 : Int)))))], hp := [] })))) (brP (decide ((↑(UInt8.toNat (bAt s (Int.toNat i))) : Int) ≥ (48 : Int))) (brP (decide ((↑(UInt8.toNat (bAt s (Int.toNat i))) : Int) ≤ (57 : Int))) (IntKind.wrap IntKind.i64 (i + (1 : Int)) = i + (1 : Int) ∧ FC.At (c_nm2 s) [(1 : Nat), (1 : Nat), (0 : Nat), (1 : Nat), (0 : Nat)] { sl := mkS (37 : Nat) [((0 : Nat), AV.c (CV.v (Value.string s))), ((3 : Nat), AV.c (CV.v (Value.int IntKind.i64 (i + (1 : Int)))))], hp := [] }) (brP (!(↑(UInt8.toNat (bAt s (Int.toNat i))) : Int) == (45 : Int)) (FC.Fin (c_nm2 s) (AV.c (CV.v (Value.bool false))) []) (IntKind.wrap IntKind.i64 (i + (1 : Int)) = i + (1 : Int) ∧ FC.At (c_nm2 s) [(1 : Nat), (1 : Nat), (0 : Nat), (1 : Nat), (0 : Nat)] { sl := mkS (37 : Nat) [((0 : Nat), AV.c (CV.v (Value.string s))), ((3 : Nat), AV.c (CV.v (Value.int IntKind.i64 (i + (1 : Int)))))], hp := [] }))) (brP (!(↑(UInt8.toNat (bAt s (Int.toNat i))) : Int) == (45 : Int)) (FC.Fin (c_nm2 s) (AV.c (CV.v (Value.bool false))) []) (IntKind.wrap IntKind.i64 (i + (1 : Int)) = i + (1 : Int) ∧ FC.At (c_nm2 s) [(1 : Nat), (1 : Nat), (0 : Nat), (1 : Nat), (0 : Nat)] { sl := mkS (37 : Nat) [((0 : Nat), AV.c (CV.v (Value.string s))), ((3 : Nat), AV.c (CV.v (Value.int IntKind.i64 (i + (1 : Int)))))], hp := [] })))) (FC.Fin (c_nm2 s) (AV.c (CV.v (Value.bool true))) [])) (by kernel_rfl) ?_
    have next : i < s.size → okc (bAt s i.toNat) = true → (c_nm2 s).At [1, 1, 0, 1, 0] ⟨mkS 37 [(0, sv s), (3, iv (i + 1))], []⟩ := fun h hok =>
      ih (s.size - (i + 1)).toNat (by omega) (i + 1) rfl (by omega) (by omega) fun j hj => by
        by_cases e : j = i.toNat
        · rw [e]; exact hok
        · exact hall j (by omega)
    refine brD (fun h => ⟨⟨h0, by omega⟩, ?_⟩) (fun h => ⟨bv_eq ?_, rfl⟩)
    · have hf : okc (bAt s i.toNat) = false → false = nameB s := fun hf => (nameB_false (by omega) hf).symm
      repeat' (first | refine brD (fun _ => ?_) (fun _ => ?_) | refine brN ?_ | refine brE (fun _ => ?_) (fun _ => ?_) | refine ⟨wrI (by omega) (by omega), next h ?_⟩ | refine finV (bv_eq (hf ?_)) rfl | fail)
      all_goals simp [okc]
      all_goals omega
    · unfold nameB
      rw [allB_iff.2 fun j hj => hall j (by omega)]
      simp [h1, h8]
theorem nm2_sem (s : ByteArray) : FunSem Try.prog 46 [] [sv s] [] (bv (nameB s)) := by
  refine nm2_of s ?_
  refine FC.ev (by kernel_rfl) 100 (X := brP (!rangeB (↑(ByteArray.size s) : Int) (1 : Int) (8 : Int)) (FC.Fin (c_nm2 s) (AV.c (CV.v (Value.bool false))) []) (FC.At (c_nm2 s) [(1 : Nat), (1 : Nat), (0 : Nat), (1 : Nat), (0 : Nat)] { sl := mkS (37 : Nat) [((0 : Nat), AV.c (CV.v (Value.string s))), ((3 : Nat), AV.c (CV.v (Value.int IntKind.i64 (0 : Int))))], hp := [] })) (by kernel_rfl) ?_
  refine brN (brI (fun h => ?_) (fun h => finV (bv_eq ?_) rfl))
  · simp [rangeB] at h
    exact nm2_l s (by omega) (by omega) _ 0 rfl (by omega) (by omega) (by omega)
  · simp [rangeB] at h
    simp [nameB]; omega
noncomputable def e_nm2 : CE Try.prog := CE.pure 46 [.c .x] (fun
  | [.c (.v (.string s))] => some ([], bv (nameB s), [])
  | _ => none) (by
  intro ys q v hp1 h hq
  split at h <;> cases h
  exact nm2_sem _)
end Go.Proofs.Ytekdfddodabfcaa
/- Contracts: kinds, points, bases (the reference's). -/
namespace Go.Proofs.Ytekdfddodabfcaa
open Go.RowKit
set_option linter.unusedVariables false
set_option linter.unusedSectionVars false
set_option linter.unusedSimpArgs false
def kindB (nm : ByteArray) (q s : Int) : Bool := nameB nm && rangeB q 1 s && decide (s ≤ 50)
noncomputable def c_kd1 (nm : ByteArray) (q s : Int) : FC := mkC Try.prog Try.f22 [0, 1, 2] [0, 1, 2] [] [e_nm1, e_in1] 0 [] (bv (kindB nm q s))
theorem kd1_of (nm : ByteArray) (q s : Int) (h : (c_kd1 nm q s).At [] ⟨mkS 18 [(0, .ag [.v (.string nm), .v (.int .i64 q), .v (.int .i64 s)])], []⟩) : FunSem Try.prog 22 [] [.ag [.v (.string nm), .v (.int .i64 q), .v (.int .i64 s)]] [] (bv (kindB nm q s)) :=
  FC.sem (C := c_kd1 nm q s) (m := 17) Try.func22 (by kernel_rfl) rfl rfl (by kernel_rfl) rfl rfl h
theorem kd1_sem (nm : ByteArray) (q s : Int) : FunSem Try.prog 22 [] [.ag [.v (.string nm), .v (.int .i64 q), .v (.int .i64 s)]] [] (bv (kindB nm q s)) := by
  refine kd1_of nm q s ?_
  refine FC.ev (by kernel_rfl) 100 (X := brP (nameB nm) (brP (rangeB q (1 : Int) s) (FC.Fin (c_kd1 nm q s) (AV.c (CV.v (Value.bool (decide (s ≤ (50 : Int)))))) []) (FC.Fin (c_kd1 nm q s) (AV.c (CV.v (Value.bool false))) [])) (FC.Fin (c_kd1 nm q s) (AV.c (CV.v (Value.bool false))) [])) (by kernel_rfl) ?_
  refine brI (fun h1 => brI (fun h2 => finV (bv_eq ?_) rfl) (fun h2 => finV (bv_eq ?_) rfl)) (fun h1 => finV (bv_eq ?_) rfl) <;> simp [kindB, h1] <;> simp [h2]
noncomputable def e_kd1 : CE Try.prog := CE.pure 22 [.ag [.x, .x, .x]] (fun
  | [.ag [.v (.string nm), .v (.int .i64 q), .v (.int .i64 s)]] => some ([], bv (kindB nm q s), [])
  | _ => none) (by
  intro ys q v hp1 h hq
  split at h <;> cases h
  exact kd1_sem _ _ _)
def pointB (nm : ByteArray) (x y : Int) : Bool := nameB nm && rangeB x 0 15 && rangeB y 0 15
noncomputable def c_pt1 (nm : ByteArray) (q s : Int) : FC := mkC Try.prog Try.f23 [0, 1, 2] [0, 1, 2] [] [e_nm1, e_in1] 0 [] (bv (pointB nm q s))
theorem pt1_of (nm : ByteArray) (q s : Int) (h : (c_pt1 nm q s).At [] ⟨mkS 16 [(0, .ag [.v (.string nm), .v (.int .i64 q), .v (.int .i64 s)])], []⟩) : FunSem Try.prog 23 [] [.ag [.v (.string nm), .v (.int .i64 q), .v (.int .i64 s)]] [] (bv (pointB nm q s)) :=
  FC.sem (C := c_pt1 nm q s) (m := 15) Try.func23 (by kernel_rfl) rfl rfl (by kernel_rfl) rfl rfl h
theorem pt1_sem (nm : ByteArray) (q s : Int) : FunSem Try.prog 23 [] [.ag [.v (.string nm), .v (.int .i64 q), .v (.int .i64 s)]] [] (bv (pointB nm q s)) := by
  refine pt1_of nm q s ?_
  refine FC.ev (by kernel_rfl) 100 (X := brP (nameB nm) (brP (rangeB q (0 : Int) (15 : Int)) (FC.Fin (c_pt1 nm q s) (AV.c (CV.v (Value.bool (rangeB s (0 : Int) (15 : Int))))) []) (FC.Fin (c_pt1 nm q s) (AV.c (CV.v (Value.bool false))) [])) (FC.Fin (c_pt1 nm q s) (AV.c (CV.v (Value.bool false))) [])) (by kernel_rfl) ?_
  refine brI (fun h1 => brI (fun h2 => finV (bv_eq ?_) rfl) (fun h2 => finV (bv_eq ?_) rfl)) (fun h1 => finV (bv_eq ?_) rfl) <;> simp [pointB, h1] <;> simp [h2]
noncomputable def e_pt1 : CE Try.prog := CE.pure 23 [.ag [.x, .x, .x]] (fun
  | [.ag [.v (.string nm), .v (.int .i64 q), .v (.int .i64 s)]] => some ([], bv (pointB nm q s), [])
  | _ => none) (by
  intro ys q v hp1 h hq
  split at h <;> cases h
  exact pt1_sem _ _ _)
/-! Bases, as rows of raw cells. -/
def KOk (ks : List (List DV)) (i : Nat) : Prop := kindB (cS ks i 0) (cI ks i 1) (cI ks i 2) = true ∧ (0 < i → Op.bytesLess (cS ks (i - 1) 0).toList (cS ks i 0).toList = true)
def POk (ps : List (List DV)) (i : Nat) : Prop := pointB (cS ps i 0) (cI ps i 1) (cI ps i 2) = true ∧ (0 < i → Op.bytesLess (cS ps (i - 1) 0).toList (cS ps i 0).toList = true) ∧ ∀ k, k < i → ¬ (cI ps k 1 = cI ps i 1 ∧ cI ps k 2 = cI ps i 2)
structure BaseOk (ks ps : List (List DV)) : Prop where
  h6 : ks.length ≤ 6
  h16 : ps.length ≤ 16
  k : ∀ i, i < ks.length → KOk ks i
  p : ∀ i, i < ps.length → POk ps i
open Classical in
noncomputable def baseB (ks ps : List (List DV)) : Bool := decide (BaseOk ks ps)
theorem baseB_f {ks ps : List (List DV)} (h : ¬ BaseOk ks ps) : false = baseB ks ps := by simp [baseB, h]
theorem baseB_t {ks ps : List (List DV)} (h : BaseOk ks ps) : true = baseB ks ps := by simp [baseB, h]
theorem baseB_iff {ks ps : List (List DV)} : baseB ks ps = true ↔ BaseOk ks ps := by simp [baseB]
noncomputable def c_bo1 (ks ps : List (List DV)) : FC := mkC Try.prog Try.f6 [0, 1, 2, 3, 4, 5] [0, 1, 2, 3, 4, 5, 15, 20, 49, 54, 83, 86, 116] [([1, 1, 0, 1, 0], [1, 3]), ([1, 1, 1, 0, 1, 0], [1, 4]), ([1, 1, 1, 0, 1, 0, 0, 1, 0, 0, 1, 1, 0], [1, 4, 5])] [e_kd1, e_pt1] 0 [] (bv (baseB ks ps))
theorem bo1_of (ks ps : List (List DV)) (h : (c_bo1 ks ps).At [] ⟨mkS 117 [(0, .ag [.ro 50 ks, .ro 53 ps])], []⟩) : FunSem Try.prog 6 [] [.ag [.ro 50 ks, .ro 53 ps]] [] (bv (baseB ks ps)) :=
  FC.sem (C := c_bo1 ks ps) (m := 116) Try.func6 (by kernel_rfl) rfl rfl (by kernel_rfl) rfl rfl h
section
variable {ks ps : List (List DV)}
theorem bo1_f (h : ¬ BaseOk ks ps) : (c_bo1 ks ps).Fin (bv false) [] := finV (bv_eq (baseB_f h)) rfl
variable (hk : Shp Try.prog 50 ks) (hp : Shp Try.prog 53 ps)
include hk hp
theorem bo1_l3 (i : Int) (h0 : 0 ≤ i) (hi : i < ps.length) (h16 : ps.length ≤ 16)
    (next : (∀ k : Nat, k < i.toNat → ¬ (cI ps k 1 = cI ps i.toNat 1 ∧ cI ps k 2 = cI ps i.toNat 2)) → (c_bo1 ks ps).At [1, 1, 1, 0, 1, 0] ⟨mkS 117 [(1, .c (.pt 0 0)), (4, iv (i + 1))], [some (.var 31 [.ro 50 ks, .ro 53 ps])]⟩) :
    ∀ (m : Nat) (k : Int), m = (i - k).toNat → 0 ≤ k → k ≤ i → (∀ j : Nat, j < k.toNat → ¬ (cI ps j 1 = cI ps i.toNat 1 ∧ cI ps j 2 = cI ps i.toNat 2)) →
    (c_bo1 ks ps).At [1, 1, 1, 0, 1, 0, 0, 1, 0, 0, 1, 1, 0] ⟨mkS 117 [(1, .c (.pt 0 0)), (4, iv i), (5, iv k)], [some (.var 31 [.ro 50 ks, .ro 53 ps])]⟩ := by
  intro m
  induction m using Nat.strongRecOn with
  | _ m ih =>
    intro k hm hk0 hki hP
    refine FC.loopB (by kernel_rfl) (by kernel_rfl) 100 (X := brP (decide (k < i)) ((0 : Int) ≤ k ∧ El Try.prog (53 : Nat) ps (Int.toNat k) ∧ (0 : Int) ≤ i ∧ El Try.prog (53 : Nat) ps (Int.toNat i) ∧ brP (cI ps (Int.toNat k) (1 : Nat) == cI ps (Int.toNat i) (1 : Nat)) ((0 : Int) ≤ k ∧ El Try.prog (53 : Nat) ps (Int.toNat k) ∧ (0 : Int) ≤ i ∧ El Try.prog (53 : Nat) ps (Int.toNat i) ∧ brP (cI ps (Int.toNat k) (2 : Nat) == cI ps (Int.toNat i) (2 : Nat)) (FC.Fin (c_bo1 ks ps) (AV.c (CV.v (Value.bool false))) []) (IntKind.wrap IntKind.i64 (k + (1 : Int)) = k + (1 : Int) ∧ FC.At (c_bo1 ks ps) [(1 : Nat), (1 : Nat), (1 : Nat), (0 : Nat), (1 : Nat), (0 : Nat), (0 : Nat), (1 : Nat), (0 : Nat), (0 : Nat), (1 : Nat), (1 : Nat), (0 : Nat)] { sl := mkS (117 : Nat) [((1 : Nat), AV.c (CV.pt (0 : Nat) (0 : Nat))), ((4 : Nat), AV.c (CV.v (Value.int IntKind.i64 i))), ((5 : Nat), AV.c (CV.v (Value.int IntKind.i64 (k + (1 : Int)))))], hp := [some (AB.var (31 : Nat) [CV.ro (50 : Nat) ks, CV.ro (53 : Nat) ps])] })) (IntKind.wrap IntKind.i64 (k + (1 : Int)) = k + (1 : Int) ∧ FC.At (c_bo1 ks ps) [(1 : Nat), (1 : Nat), (1 : Nat), (0 : Nat), (1 : Nat), (0 : Nat), (0 : Nat), (1 : Nat), (0 : Nat), (0 : Nat), (1 : Nat), (1 : Nat), (0 : Nat)] { sl := mkS (117 : Nat) [((1 : Nat), AV.c (CV.pt (0 : Nat) (0 : Nat))), ((4 : Nat), AV.c (CV.v (Value.int IntKind.i64 i))), ((5 : Nat), AV.c (CV.v (Value.int IntKind.i64 (k + (1 : Int)))))], hp := [some (AB.var (31 : Nat) [CV.ro (50 : Nat) ks, CV.ro (53 : Nat) ps])] })) (IntKind.wrap IntKind.i64 (i + (1 : Int)) = i + (1 : Int) ∧ FC.At (c_bo1 ks ps) [(1 : Nat), (1 : Nat), (1 : Nat), (0 : Nat), (1 : Nat), (0 : Nat)] { sl := mkS (117 : Nat) [((1 : Nat), AV.c (CV.pt (0 : Nat) (0 : Nat))), ((4 : Nat), AV.c (CV.v (Value.int IntKind.i64 (i + (1 : Int)))))], hp := [some (AB.var (31 : Nat) [CV.ro (50 : Nat) ks, CV.ro (53 : Nat) ps])] })) (by kernel_rfl) ?_
    have step : k < i → ¬ (cI ps k.toNat 1 = cI ps i.toNat 1 ∧ cI ps k.toNat 2 = cI ps i.toNat 2) → (c_bo1 ks ps).At [1, 1, 1, 0, 1, 0, 0, 1, 0, 0, 1, 1, 0] ⟨mkS 117 [(1, .c (.pt 0 0)), (4, iv i), (5, iv (k + 1))], [some (.var 31 [.ro 50 ks, .ro 53 ps])]⟩ := fun hlt h =>
      ih (i - (k + 1)).toNat (by omega) (k + 1) rfl (by omega) (by omega) fun j hj => by
        by_cases e : j = k.toNat
        · rw [e]; exact h
        · exact hP j (by omega)
    repeat' (first | (with_reducible refine And.intro ?_ ?_) | refine brN ?_ | refine brD (fun _ => ?_) (fun _ => ?_) | refine brE (fun _ => ?_) (fun _ => ?_) | refine brEn (fun _ => ?_) (fun _ => ?_) | refine brEb (fun _ => ?_) (fun _ => ?_) | refine brS (fun _ => ?_) (fun _ => ?_) | refine brI (fun _ => ?_) (fun _ => ?_) | omega | exact wrI (by omega) (by omega) | exact hp.el (by omega) | exact step ‹_› (fun h => absurd h.1 ‹_›) | exact step ‹_› (fun h => absurd h.2 ‹_›) | exact bo1_f (fun hb => (hb.p i.toNat (by omega)).2.2 k.toNat (by omega) ⟨‹_›, ‹_›⟩) | exact next (fun j hj => hP j (by omega)) | fail)
theorem bo1_l2 (h6 : ks.length ≤ 6) (h16 : ps.length ≤ 16) : ∀ (m : Nat) (i : Int), m = (ps.length - i).toNat → 0 ≤ i → i ≤ ps.length → (∀ j, j < ks.length → KOk ks j) → (∀ j, j < i.toNat → POk ps j) →
    (c_bo1 ks ps).At [1, 1, 1, 0, 1, 0] ⟨mkS 117 [(1, .c (.pt 0 0)), (4, iv i)], [some (.var 31 [.ro 50 ks, .ro 53 ps])]⟩ := by
  intro m
  induction m using Nat.strongRecOn with
  | _ m ih =>
    intro i hm h0 hn hK hP
    refine FC.loopB (by kernel_rfl) (by kernel_rfl) 100 (X := brP (decide (i < (↑(List.length ps) : Int))) ((0 : Int) ≤ i ∧ El Try.prog (53 : Nat) ps (Int.toNat i) ∧ brP (!pointB (cS ps (Int.toNat i) (0 : Nat)) (cI ps (Int.toNat i) (1 : Nat)) (cI ps (Int.toNat i) (2 : Nat))) (FC.Fin (c_bo1 ks ps) (AV.c (CV.v (Value.bool false))) []) (brP (decide (i > (0 : Int))) (IntKind.wrap IntKind.i64 (i - (1 : Int)) = i - (1 : Int) ∧ (0 : Int) ≤ i - (1 : Int) ∧ El Try.prog (53 : Nat) ps (Int.toNat (i - (1 : Int))) ∧ (0 : Int) ≤ i ∧ El Try.prog (53 : Nat) ps (Int.toNat i) ∧ brP (!Op.bytesLess (ByteArray.toList (cS ps (Int.toNat (i - (1 : Int))) (0 : Nat))) (ByteArray.toList (cS ps (Int.toNat i) (0 : Nat)))) (FC.Fin (c_bo1 ks ps) (AV.c (CV.v (Value.bool false))) []) (FC.At (c_bo1 ks ps) [(1 : Nat), (1 : Nat), (1 : Nat), (0 : Nat), (1 : Nat), (0 : Nat), (0 : Nat), (1 : Nat), (0 : Nat), (0 : Nat), (1 : Nat), (1 : Nat), (0 : Nat)] { sl := mkS (117 : Nat) [((1 : Nat), AV.c (CV.pt (0 : Nat) (0 : Nat))), ((4 : Nat), AV.c (CV.v (Value.int IntKind.i64 i))), ((5 : Nat), AV.c (CV.v (Value.int IntKind.i64 (0 : Int))))], hp := [some (AB.var (31 : Nat) [CV.ro (50 : Nat) ks, CV.ro (53 : Nat) ps])] })) (FC.At (c_bo1 ks ps) [(1 : Nat), (1 : Nat), (1 : Nat), (0 : Nat), (1 : Nat), (0 : Nat), (0 : Nat), (1 : Nat), (0 : Nat), (0 : Nat), (1 : Nat), (1 : Nat), (0 : Nat)] { sl := mkS (117 : Nat) [((1 : Nat), AV.c (CV.pt (0 : Nat) (0 : Nat))), ((4 : Nat), AV.c (CV.v (Value.int IntKind.i64 i))), ((5 : Nat), AV.c (CV.v (Value.int IntKind.i64 (0 : Int))))], hp := [some (AB.var (31 : Nat) [CV.ro (50 : Nat) ks, CV.ro (53 : Nat) ps])] }))) (FC.Fin (c_bo1 ks ps) (AV.c (CV.v (Value.bool true))) [])) (by kernel_rfl) ?_
    have e1 : (i - 1).toNat = i.toNat - 1 := by omega
    rw [e1]
    have next : i < ps.length → pointB (cS ps i.toNat 0) (cI ps i.toNat 1) (cI ps i.toNat 2) = true → (0 < i.toNat → Op.bytesLess (cS ps (i.toNat - 1) 0).toList (cS ps i.toNat 0).toList = true) →
        (c_bo1 ks ps).At [1, 1, 1, 0, 1, 0, 0, 1, 0, 0, 1, 1, 0] ⟨mkS 117 [(1, .c (.pt 0 0)), (4, iv i), (5, iv 0)], [some (.var 31 [.ro 50 ks, .ro 53 ps])]⟩ := fun hlt h1 h2 =>
      bo1_l3 hk hp i h0 hlt h16 (fun h3 => ih (ps.length - (i + 1)).toNat (by omega) (i + 1) rfl (by omega) (by omega) hK fun j hj => by
        by_cases e : j = i.toNat
        · rw [e]; exact ⟨h1, h2, h3⟩
        · exact hP j (by omega)) _ 0 rfl (by omega) (by omega) (fun j hj => by omega)
    repeat' (first | (with_reducible refine And.intro ?_ ?_) | refine brN ?_ | refine brD (fun _ => ?_) (fun _ => ?_) | refine brE (fun _ => ?_) (fun _ => ?_) | refine brEn (fun _ => ?_) (fun _ => ?_) | refine brEb (fun _ => ?_) (fun _ => ?_) | refine brS (fun _ => ?_) (fun _ => ?_) | refine brI (fun _ => ?_) (fun _ => ?_) | omega | exact wrI (by omega) (by omega) | exact hp.el (by omega) | exact next ‹_› ‹_› (fun _ => ‹_›) | exact next ‹_› ‹_› (fun _ => by omega) | exact bo1_f (fun hb => tf ((hb.p i.toNat (by omega)).1) ‹_›) | exact bo1_f (fun hb => tf ((hb.p i.toNat (by omega)).2.1 (by omega)) ‹_›) | exact finV (bv_eq (baseB_t ⟨h6, h16, hK, fun j hj => hP j (by omega)⟩)) rfl | fail)
theorem bo1_l1 (h6 : ks.length ≤ 6) (h16 : ps.length ≤ 16) : ∀ (m : Nat) (i : Int), m = (ks.length - i).toNat → 0 ≤ i → i ≤ ks.length → (∀ j, j < i.toNat → KOk ks j) →
    (c_bo1 ks ps).At [1, 1, 0, 1, 0] ⟨mkS 117 [(1, .c (.pt 0 0)), (3, iv i)], [some (.var 31 [.ro 50 ks, .ro 53 ps])]⟩ := by
  intro m
  induction m using Nat.strongRecOn with
  | _ m ih =>
    intro i hm h0 hn hK
    refine FC.loopB (by kernel_rfl) (by kernel_rfl) 100 (X := brP (decide (i < (↑(List.length ks) : Int))) ((0 : Int) ≤ i ∧ El Try.prog (50 : Nat) ks (Int.toNat i) ∧ brP (!kindB (cS ks (Int.toNat i) (0 : Nat)) (cI ks (Int.toNat i) (1 : Nat)) (cI ks (Int.toNat i) (2 : Nat))) (FC.Fin (c_bo1 ks ps) (AV.c (CV.v (Value.bool false))) []) (brP (decide (i > (0 : Int))) (IntKind.wrap IntKind.i64 (i - (1 : Int)) = i - (1 : Int) ∧ (0 : Int) ≤ i - (1 : Int) ∧ El Try.prog (50 : Nat) ks (Int.toNat (i - (1 : Int))) ∧ (0 : Int) ≤ i ∧ El Try.prog (50 : Nat) ks (Int.toNat i) ∧ brP (!Op.bytesLess (ByteArray.toList (cS ks (Int.toNat (i - (1 : Int))) (0 : Nat))) (ByteArray.toList (cS ks (Int.toNat i) (0 : Nat)))) (FC.Fin (c_bo1 ks ps) (AV.c (CV.v (Value.bool false))) []) (IntKind.wrap IntKind.i64 (i + (1 : Int)) = i + (1 : Int) ∧ FC.At (c_bo1 ks ps) [(1 : Nat), (1 : Nat), (0 : Nat), (1 : Nat), (0 : Nat)] { sl := mkS (117 : Nat) [((1 : Nat), AV.c (CV.pt (0 : Nat) (0 : Nat))), ((3 : Nat), AV.c (CV.v (Value.int IntKind.i64 (i + (1 : Int)))))], hp := [some (AB.var (31 : Nat) [CV.ro (50 : Nat) ks, CV.ro (53 : Nat) ps])] })) (IntKind.wrap IntKind.i64 (i + (1 : Int)) = i + (1 : Int) ∧ FC.At (c_bo1 ks ps) [(1 : Nat), (1 : Nat), (0 : Nat), (1 : Nat), (0 : Nat)] { sl := mkS (117 : Nat) [((1 : Nat), AV.c (CV.pt (0 : Nat) (0 : Nat))), ((3 : Nat), AV.c (CV.v (Value.int IntKind.i64 (i + (1 : Int)))))], hp := [some (AB.var (31 : Nat) [CV.ro (50 : Nat) ks, CV.ro (53 : Nat) ps])] }))) (FC.At (c_bo1 ks ps) [(1 : Nat), (1 : Nat), (1 : Nat), (0 : Nat), (1 : Nat), (0 : Nat)] { sl := mkS (117 : Nat) [((1 : Nat), AV.c (CV.pt (0 : Nat) (0 : Nat))), ((4 : Nat), AV.c (CV.v (Value.int IntKind.i64 (0 : Int))))], hp := [some (AB.var (31 : Nat) [CV.ro (50 : Nat) ks, CV.ro (53 : Nat) ps])] })) (by kernel_rfl) ?_
    have e1 : (i - 1).toNat = i.toNat - 1 := by omega
    rw [e1]
    have next : KOk ks i.toNat → i < ks.length → (c_bo1 ks ps).At [1, 1, 0, 1, 0] ⟨mkS 117 [(1, .c (.pt 0 0)), (3, iv (i + 1))], [some (.var 31 [.ro 50 ks, .ro 53 ps])]⟩ := fun h hlt =>
      ih (ks.length - (i + 1)).toNat (by omega) (i + 1) rfl (by omega) (by omega) fun j hj => by
        by_cases e : j = i.toNat
        · rw [e]; exact h
        · exact hK j (by omega)
    repeat' (first | (with_reducible refine And.intro ?_ ?_) | refine brN ?_ | refine brD (fun _ => ?_) (fun _ => ?_) | refine brE (fun _ => ?_) (fun _ => ?_) | refine brEn (fun _ => ?_) (fun _ => ?_) | refine brEb (fun _ => ?_) (fun _ => ?_) | refine brS (fun _ => ?_) (fun _ => ?_) | refine brI (fun _ => ?_) (fun _ => ?_) | omega | exact wrI (by omega) (by omega) | exact hk.el (by omega) | exact next ⟨‹_›, fun _ => ‹_›⟩ ‹_› | exact next ⟨‹_›, fun _ => by omega⟩ ‹_› | exact bo1_f (fun hb => tf ((hb.k i.toNat (by omega)).1) ‹_›) | exact bo1_f (fun hb => tf ((hb.k i.toNat (by omega)).2 (by omega)) ‹_›) | exact bo1_l2 hk hp h6 h16 _ 0 rfl (by omega) (by omega) (fun j hj => hK j (by omega)) (fun j hj => by omega) | fail)
end
theorem bo1_sem (ks ps : List (List DV)) (hk : Shp Try.prog 50 ks) (hp : Shp Try.prog 53 ps) : FunSem Try.prog 6 [] [.ag [.ro 50 ks, .ro 53 ps]] [] (bv (baseB ks ps)) := by
  refine bo1_of ks ps ?_
  refine FC.ev (by kernel_rfl) 100 (X := brP (decide ((↑(List.length ks) : Int) > (6 : Int))) (FC.Fin (c_bo1 ks ps) (AV.c (CV.v (Value.bool false))) []) (brP (decide ((↑(List.length ps) : Int) > (16 : Int))) (FC.Fin (c_bo1 ks ps) (AV.c (CV.v (Value.bool false))) []) (FC.At (c_bo1 ks ps) [(1 : Nat), (1 : Nat), (0 : Nat), (1 : Nat), (0 : Nat)] { sl := mkS (117 : Nat) [((1 : Nat), AV.c (CV.pt (0 : Nat) (0 : Nat))), ((3 : Nat), AV.c (CV.v (Value.int IntKind.i64 (0 : Int))))], hp := [some (AB.var (31 : Nat) [CV.ro (50 : Nat) ks, CV.ro (53 : Nat) ps])] }))) (by kernel_rfl) ?_
  refine brD (fun h => finV (bv_eq (baseB_f fun hb => by have := hb.h6; omega)) rfl) (fun h6 => brD (fun h => finV (bv_eq (baseB_f fun hb => by have := hb.h16; omega)) rfl) (fun h16 => ?_))
  exact bo1_l1 hk hp (by omega) (by omega) _ 0 rfl (by omega) (by omega) (fun j hj => by omega)
noncomputable def e_bo1 : CE Try.prog := CE.pure 6 [.ag [.l 50, .l 53]] (fun
  | [.ag [.ro 50 ks, .ro 53 ps]] => some ([Shp Try.prog 50 ks, Shp Try.prog 53 ps], bv (baseB ks ps), [])
  | _ => none) (by
  intro ys q v hp1 h hq
  split at h <;> cases h
  exact bo1_sem _ _ hq.1 hq.2.1)
end Go.Proofs.Ytekdfddodabfcaa
/- Contracts: kinds, points, bases (the program's). -/
namespace Go.Proofs.Ytekdfddodabfcaa
open Go.RowKit
set_option linter.unusedVariables false
set_option linter.unusedSectionVars false
set_option linter.unusedSimpArgs false
noncomputable def c_kd2 (nm : ByteArray) (q s : Int) : FC := mkC Try.prog Try.f26 [0, 1, 2] [0, 1, 2] [] [e_nm2, e_in2] 0 [] (bv (kindB nm q s))
theorem kd2_of (nm : ByteArray) (q s : Int) (h : (c_kd2 nm q s).At [] ⟨mkS 23 [(0, .ag [.v (.string nm), .v (.int .i64 q), .v (.int .i64 s)])], []⟩) : FunSem Try.prog 26 [] [.ag [.v (.string nm), .v (.int .i64 q), .v (.int .i64 s)]] [] (bv (kindB nm q s)) :=
  FC.sem (C := c_kd2 nm q s) (m := 22) Try.func26 (by kernel_rfl) rfl rfl (by kernel_rfl) rfl rfl h
theorem kd2_sem (nm : ByteArray) (q s : Int) : FunSem Try.prog 26 [] [.ag [.v (.string nm), .v (.int .i64 q), .v (.int .i64 s)]] [] (bv (kindB nm q s)) := by
  refine kd2_of nm q s ?_
  refine FC.ev (by kernel_rfl) 100 (X := brP (nameB nm) (brP (decide (q ≥ (1 : Int))) (brP (decide (q ≤ s)) (FC.Fin (c_kd2 nm q s) (AV.c (CV.v (Value.bool (decide (s ≤ (50 : Int)))))) []) (FC.Fin (c_kd2 nm q s) (AV.c (CV.v (Value.bool false))) [])) (FC.Fin (c_kd2 nm q s) (AV.c (CV.v (Value.bool false))) [])) (FC.Fin (c_kd2 nm q s) (AV.c (CV.v (Value.bool false))) [])) (by kernel_rfl) ?_
  repeat' (first | (with_reducible refine And.intro ?_ ?_) | refine brN ?_ | refine brD (fun _ => ?_) (fun _ => ?_) | refine brE (fun _ => ?_) (fun _ => ?_) | refine brEn (fun _ => ?_) (fun _ => ?_) | refine brEb (fun _ => ?_) (fun _ => ?_) | refine brS (fun _ => ?_) (fun _ => ?_) | refine brI (fun _ => ?_) (fun _ => ?_) | omega | exact wrI (by omega) (by omega) | refine finV (bv_eq ?_) rfl | fail)
  all_goals simp_all [kindB, rangeB]
  all_goals omega
noncomputable def e_kd2 : CE Try.prog := CE.pure 26 [.ag [.x, .x, .x]] (fun
  | [.ag [.v (.string nm), .v (.int .i64 q), .v (.int .i64 s)]] => some ([], bv (kindB nm q s), [])
  | _ => none) (by
  intro ys q v hp1 h hq
  split at h <;> cases h
  exact kd2_sem _ _ _)
noncomputable def c_pt2 (nm : ByteArray) (q s : Int) : FC := mkC Try.prog Try.f27 [0, 1, 2] [0, 1, 2] [] [e_nm2, e_in2] 0 [] (bv (pointB nm q s))
theorem pt2_of (nm : ByteArray) (q s : Int) (h : (c_pt2 nm q s).At [] ⟨mkS 16 [(0, .ag [.v (.string nm), .v (.int .i64 q), .v (.int .i64 s)])], []⟩) : FunSem Try.prog 27 [] [.ag [.v (.string nm), .v (.int .i64 q), .v (.int .i64 s)]] [] (bv (pointB nm q s)) :=
  FC.sem (C := c_pt2 nm q s) (m := 15) Try.func27 (by kernel_rfl) rfl rfl (by kernel_rfl) rfl rfl h
theorem pt2_sem (nm : ByteArray) (q s : Int) : FunSem Try.prog 27 [] [.ag [.v (.string nm), .v (.int .i64 q), .v (.int .i64 s)]] [] (bv (pointB nm q s)) := by
  refine pt2_of nm q s ?_
  refine FC.ev (by kernel_rfl) 100 (X := brP (nameB nm) (brP (rangeB q (0 : Int) (15 : Int)) (FC.Fin (c_pt2 nm q s) (AV.c (CV.v (Value.bool (rangeB s (0 : Int) (15 : Int))))) []) (FC.Fin (c_pt2 nm q s) (AV.c (CV.v (Value.bool false))) [])) (FC.Fin (c_pt2 nm q s) (AV.c (CV.v (Value.bool false))) [])) (by kernel_rfl) ?_
  repeat' (first | (with_reducible refine And.intro ?_ ?_) | refine brN ?_ | refine brD (fun _ => ?_) (fun _ => ?_) | refine brE (fun _ => ?_) (fun _ => ?_) | refine brEn (fun _ => ?_) (fun _ => ?_) | refine brEb (fun _ => ?_) (fun _ => ?_) | refine brS (fun _ => ?_) (fun _ => ?_) | refine brI (fun _ => ?_) (fun _ => ?_) | omega | exact wrI (by omega) (by omega) | refine finV (bv_eq ?_) rfl | fail)
  all_goals simp_all [pointB]
noncomputable def e_pt2 : CE Try.prog := CE.pure 27 [.ag [.x, .x, .x]] (fun
  | [.ag [.v (.string nm), .v (.int .i64 q), .v (.int .i64 s)]] => some ([], bv (pointB nm q s), [])
  | _ => none) (by
  intro ys q v hp1 h hq
  split at h <;> cases h
  exact pt2_sem _ _ _)
noncomputable def c_bo2 (ks ps : List (List DV)) : FC := mkC Try.prog Try.f8 [0, 1, 2, 3, 4, 5, 6, 7, 8, 20, 21, 22, 49, 50, 51] [0, 1, 2, 3, 4, 5, 6, 7, 8, 18, 20, 21, 22, 23, 45, 49, 50, 51, 52, 84] [([1, 1, 0, 1, 0], [1, 20, 21, 22]), ([1, 1, 1, 1, 0, 1, 0], [1, 5, 49, 50, 51])] [e_kd2, e_pt2] 0 [] (bv (baseB ks ps))
theorem bo2_of (ks ps : List (List DV)) (h : (c_bo2 ks ps).At [] ⟨mkS 88 [(0, .ag [.ro 50 ks, .ro 53 ps])], []⟩) : FunSem Try.prog 8 [] [.ag [.ro 50 ks, .ro 53 ps]] [] (bv (baseB ks ps)) :=
  FC.sem (C := c_bo2 ks ps) (m := 87) Try.func8 (by kernel_rfl) rfl rfl (by kernel_rfl) rfl rfl h
section
variable {ks ps : List (List DV)}
theorem bo2_f (h : ¬ BaseOk ks ps) : (c_bo2 ks ps).Fin (bv false) [] := finV (bv_eq (baseB_f h)) rfl
variable (hk : Shp Try.prog 50 ks) (hp : Shp Try.prog 53 ps) (h6 : ks.length ≤ 6) (h16 : ps.length ≤ 16)
include hk hp h6 h16
theorem bo2_l2 (hK : ∀ j, j < ks.length → KOk ks j) : ∀ (m : Nat) (i : Int) (o : Obj), m = (ps.length - i).toNat → 0 ≤ i → i ≤ ps.length → (∀ j, j < i.toNat → POk ps j) →
    SetM Try.prog 56 o → (∀ x y : Int, memO o [.int .i64 x, .int .i64 y] = true ↔ ∃ j : Nat, j < i.toNat ∧ cI ps j 1 = x ∧ cI ps j 2 = y) →
    (c_bo2 ks ps).At [1, 1, 1, 1, 0, 1, 0] ⟨mkS 88 [(1, .c (.pt 0 0)), (5, .c (.mp 1)), (49, .c (.ro 53 ps)), (50, iv ps.length), (51, iv i)], [some (.var 31 [.ro 50 ks, .ro 53 ps]), some (.ob o)]⟩ := by
  intro m
  induction m using Nat.strongRecOn with
  | _ m ih =>
    intro i o hm h0 hn hP hS hM
    refine FC.loopB (by kernel_rfl) (by kernel_rfl) 100 (X := brP (decide (i < (↑(List.length ps) : Int))) ((0 : Int) ≤ i ∧ El Try.prog (53 : Nat) ps (Int.toNat i) ∧ brP (!pointB (cS ps (Int.toNat i) (0 : Nat)) (cI ps (Int.toNat i) (1 : Nat)) (cI ps (Int.toNat i) (2 : Nat))) (FC.Fin (c_bo2 ks ps) (AV.c (CV.v (Value.bool false))) []) (brP (decide (i > (0 : Int))) (IntKind.wrap IntKind.i64 (i - (1 : Int)) = i - (1 : Int) ∧ (0 : Int) ≤ i - (1 : Int) ∧ El Try.prog (53 : Nat) ps (Int.toNat (i - (1 : Int))) ∧ brP (!Op.bytesLess (ByteArray.toList (cS ps (Int.toNat (i - (1 : Int))) (0 : Nat))) (ByteArray.toList (cS ps (Int.toNat i) (0 : Nat)))) (FC.Fin (c_bo2 ks ps) (AV.c (CV.v (Value.bool false))) []) (SetM Try.prog (56 : Nat) o ∧ brP (memO o [Value.int IntKind.i64 (cI ps (Int.toNat i) (1 : Nat)), Value.int IntKind.i64 (cI ps (Int.toNat i) (2 : Nat))]) (FC.Fin (c_bo2 ks ps) (AV.c (CV.v (Value.bool false))) []) (SetM Try.prog (56 : Nat) o ∧ memO o [Value.int IntKind.i64 (cI ps (Int.toNat i) (1 : Nat)), Value.int IntKind.i64 (cI ps (Int.toNat i) (2 : Nat))] = false ∧ IntKind.wrap IntKind.i64 (i + (1 : Int)) = i + (1 : Int) ∧ FC.At (c_bo2 ks ps) [(1 : Nat), (1 : Nat), (1 : Nat), (1 : Nat), (0 : Nat), (1 : Nat), (0 : Nat)] { sl := mkS (88 : Nat) [((1 : Nat), AV.c (CV.pt (0 : Nat) (0 : Nat))), ((5 : Nat), AV.c (CV.mp (1 : Nat))), ((49 : Nat), AV.c (CV.ro (53 : Nat) ps)), ((50 : Nat), AV.c (CV.v (Value.int IntKind.i64 (↑(List.length ps) : Int)))), ((51 : Nat), AV.c (CV.v (Value.int IntKind.i64 (i + (1 : Int)))))], hp := [some (AB.var (31 : Nat) [CV.ro (50 : Nat) ks, CV.ro (53 : Nat) ps]), some (AB.ob (insO o [Value.int IntKind.i64 (cI ps (Int.toNat i) (1 : Nat)), Value.int IntKind.i64 (cI ps (Int.toNat i) (2 : Nat))]))] }))) (SetM Try.prog (56 : Nat) o ∧ brP (memO o [Value.int IntKind.i64 (cI ps (Int.toNat i) (1 : Nat)), Value.int IntKind.i64 (cI ps (Int.toNat i) (2 : Nat))]) (FC.Fin (c_bo2 ks ps) (AV.c (CV.v (Value.bool false))) []) (SetM Try.prog (56 : Nat) o ∧ memO o [Value.int IntKind.i64 (cI ps (Int.toNat i) (1 : Nat)), Value.int IntKind.i64 (cI ps (Int.toNat i) (2 : Nat))] = false ∧ IntKind.wrap IntKind.i64 (i + (1 : Int)) = i + (1 : Int) ∧ FC.At (c_bo2 ks ps) [(1 : Nat), (1 : Nat), (1 : Nat), (1 : Nat), (0 : Nat), (1 : Nat), (0 : Nat)] { sl := mkS (88 : Nat) [((1 : Nat), AV.c (CV.pt (0 : Nat) (0 : Nat))), ((5 : Nat), AV.c (CV.mp (1 : Nat))), ((49 : Nat), AV.c (CV.ro (53 : Nat) ps)), ((50 : Nat), AV.c (CV.v (Value.int IntKind.i64 (↑(List.length ps) : Int)))), ((51 : Nat), AV.c (CV.v (Value.int IntKind.i64 (i + (1 : Int)))))], hp := [some (AB.var (31 : Nat) [CV.ro (50 : Nat) ks, CV.ro (53 : Nat) ps]), some (AB.ob (insO o [Value.int IntKind.i64 (cI ps (Int.toNat i) (1 : Nat)), Value.int IntKind.i64 (cI ps (Int.toNat i) (2 : Nat))]))] })))) (FC.Fin (c_bo2 ks ps) (AV.c (CV.v (Value.bool true))) [])) (by kernel_rfl) ?_
    have e1 : (i - 1).toNat = i.toNat - 1 := by omega
    rw [e1]
    have next : i < ps.length → pointB (cS ps i.toNat 0) (cI ps i.toNat 1) (cI ps i.toNat 2) = true → (0 < i.toNat → Op.bytesLess (cS ps (i.toNat - 1) 0).toList (cS ps i.toNat 0).toList = true) →
        memO o [.int .i64 (cI ps i.toNat 1), .int .i64 (cI ps i.toNat 2)] = false →
        (c_bo2 ks ps).At [1, 1, 1, 1, 0, 1, 0] ⟨mkS 88 [(1, .c (.pt 0 0)), (5, .c (.mp 1)), (49, .c (.ro 53 ps)), (50, iv ps.length), (51, iv (i + 1))], [some (.var 31 [.ro 50 ks, .ro 53 ps]), some (.ob (insO o [.int .i64 (cI ps i.toNat 1), .int .i64 (cI ps i.toNat 2)]))]⟩ := fun hlt h1 h2 h3 => by
      have h4 : ∀ k, k < i.toNat → ¬ (cI ps k 1 = cI ps i.toNat 1 ∧ cI ps k 2 = cI ps i.toNat 2) := fun k hk hh => tf ((hM _ _).2 ⟨k, hk, hh⟩) h3
      refine ih (ps.length - (i + 1)).toNat (by omega) (i + 1) _ rfl (by omega) (by omega) (fun j hj => ?_) (hS.ins (by kernel_rfl)) (fun x y => ?_)
      · by_cases e : j = i.toNat
        · rw [e]; exact ⟨h1, h2, h4⟩
        · exact hP j (by omega)
      · rw [hS.mem, Bool.or_eq_true, hM]
        simp only [eqVs, eqV, Bool.and_true, Bool.and_eq_true, beq_iff_eq]
        constructor
        · rintro (⟨j, hj, h5, h6⟩ | ⟨h5, h6⟩)
          · exact ⟨j, by omega, h5, h6⟩
          · exact ⟨i.toNat, by omega, h5.symm, h6.symm⟩
        · rintro ⟨j, hj, h5, h6⟩
          by_cases e : j = i.toNat
          · subst e; exact .inr ⟨h5.symm, h6.symm⟩
          · exact .inl ⟨j, by omega, h5, h6⟩
    have dup : i < ps.length → memO o [.int .i64 (cI ps i.toNat 1), .int .i64 (cI ps i.toNat 2)] = true → (c_bo2 ks ps).Fin (bv false) [] := fun hlt h => bo2_f fun hb => by
      obtain ⟨j, hj, hh⟩ := (hM _ _).1 h
      exact (hb.p i.toNat (by omega)).2.2 j hj hh
    repeat' (first | (with_reducible refine And.intro ?_ ?_) | refine brN ?_ | refine brD (fun _ => ?_) (fun _ => ?_) | refine brE (fun _ => ?_) (fun _ => ?_) | refine brEn (fun _ => ?_) (fun _ => ?_) | refine brEb (fun _ => ?_) (fun _ => ?_) | refine brS (fun _ => ?_) (fun _ => ?_) | refine brI (fun _ => ?_) (fun _ => ?_) | omega | exact wrI (by omega) (by omega) | exact hp.el (by omega) | exact hS | exact ‹_› | exact next ‹_› ‹_› (fun _ => ‹_›) ‹_› | exact next ‹_› ‹_› (fun _ => by omega) ‹_› | exact dup ‹_› ‹_› | exact bo2_f (fun hb => tf ((hb.p i.toNat (by omega)).1) ‹_›) | exact bo2_f (fun hb => tf ((hb.p i.toNat (by omega)).2.1 (by omega)) ‹_›) | exact finV (bv_eq (baseB_t ⟨h6, h16, hK, fun j hj => hP j (by omega)⟩)) rfl | fail)
theorem bo2_l1 : ∀ (m : Nat) (i : Int), m = (ks.length - i).toNat → 0 ≤ i → i ≤ ks.length → (∀ j, j < i.toNat → KOk ks j) →
    (c_bo2 ks ps).At [1, 1, 0, 1, 0] ⟨mkS 88 [(1, .c (.pt 0 0)), (20, .c (.ro 50 ks)), (21, iv ks.length), (22, iv i)], [some (.var 31 [.ro 50 ks, .ro 53 ps])]⟩ := by
  intro m
  induction m using Nat.strongRecOn with
  | _ m ih =>
    intro i hm h0 hn hK
    refine FC.loopB (by kernel_rfl) (by kernel_rfl) 100 (X := brP (decide (i < (↑(List.length ks) : Int))) ((0 : Int) ≤ i ∧ El Try.prog (50 : Nat) ks (Int.toNat i) ∧ brP (!kindB (cS ks (Int.toNat i) (0 : Nat)) (cI ks (Int.toNat i) (1 : Nat)) (cI ks (Int.toNat i) (2 : Nat))) (FC.Fin (c_bo2 ks ps) (AV.c (CV.v (Value.bool false))) []) (brP (decide (i > (0 : Int))) (IntKind.wrap IntKind.i64 (i - (1 : Int)) = i - (1 : Int) ∧ (0 : Int) ≤ i - (1 : Int) ∧ El Try.prog (50 : Nat) ks (Int.toNat (i - (1 : Int))) ∧ brP (!Op.bytesLess (ByteArray.toList (cS ks (Int.toNat (i - (1 : Int))) (0 : Nat))) (ByteArray.toList (cS ks (Int.toNat i) (0 : Nat)))) (FC.Fin (c_bo2 ks ps) (AV.c (CV.v (Value.bool false))) []) (IntKind.wrap IntKind.i64 (i + (1 : Int)) = i + (1 : Int) ∧ FC.At (c_bo2 ks ps) [(1 : Nat), (1 : Nat), (0 : Nat), (1 : Nat), (0 : Nat)] { sl := mkS (88 : Nat) [((1 : Nat), AV.c (CV.pt (0 : Nat) (0 : Nat))), ((20 : Nat), AV.c (CV.ro (50 : Nat) ks)), ((21 : Nat), AV.c (CV.v (Value.int IntKind.i64 (↑(List.length ks) : Int)))), ((22 : Nat), AV.c (CV.v (Value.int IntKind.i64 (i + (1 : Int)))))], hp := [some (AB.var (31 : Nat) [CV.ro (50 : Nat) ks, CV.ro (53 : Nat) ps])] })) (IntKind.wrap IntKind.i64 (i + (1 : Int)) = i + (1 : Int) ∧ FC.At (c_bo2 ks ps) [(1 : Nat), (1 : Nat), (0 : Nat), (1 : Nat), (0 : Nat)] { sl := mkS (88 : Nat) [((1 : Nat), AV.c (CV.pt (0 : Nat) (0 : Nat))), ((20 : Nat), AV.c (CV.ro (50 : Nat) ks)), ((21 : Nat), AV.c (CV.v (Value.int IntKind.i64 (↑(List.length ks) : Int)))), ((22 : Nat), AV.c (CV.v (Value.int IntKind.i64 (i + (1 : Int)))))], hp := [some (AB.var (31 : Nat) [CV.ro (50 : Nat) ks, CV.ro (53 : Nat) ps])] }))) (FC.At (c_bo2 ks ps) [(1 : Nat), (1 : Nat), (1 : Nat), (1 : Nat), (0 : Nat), (1 : Nat), (0 : Nat)] { sl := mkS (88 : Nat) [((1 : Nat), AV.c (CV.pt (0 : Nat) (0 : Nat))), ((5 : Nat), AV.c (CV.mp (1 : Nat))), ((49 : Nat), AV.c (CV.ro (53 : Nat) ps)), ((50 : Nat), AV.c (CV.v (Value.int IntKind.i64 (↑(List.length ps) : Int)))), ((51 : Nat), AV.c (CV.v (Value.int IntKind.i64 (0 : Int))))], hp := [some (AB.var (31 : Nat) [CV.ro (50 : Nat) ks, CV.ro (53 : Nat) ps]), some (AB.ob emptyO)] })) (by kernel_rfl) ?_
    have e1 : (i - 1).toNat = i.toNat - 1 := by omega
    rw [e1]
    have next : KOk ks i.toNat → i < ks.length → (c_bo2 ks ps).At [1, 1, 0, 1, 0] ⟨mkS 88 [(1, .c (.pt 0 0)), (20, .c (.ro 50 ks)), (21, iv ks.length), (22, iv (i + 1))], [some (.var 31 [.ro 50 ks, .ro 53 ps])]⟩ := fun h hlt =>
      ih (ks.length - (i + 1)).toNat (by omega) (i + 1) rfl (by omega) (by omega) fun j hj => by
        by_cases e : j = i.toNat
        · rw [e]; exact h
        · exact hK j (by omega)
    repeat' (first | (with_reducible refine And.intro ?_ ?_) | refine brN ?_ | refine brD (fun _ => ?_) (fun _ => ?_) | refine brE (fun _ => ?_) (fun _ => ?_) | refine brEn (fun _ => ?_) (fun _ => ?_) | refine brEb (fun _ => ?_) (fun _ => ?_) | refine brS (fun _ => ?_) (fun _ => ?_) | refine brI (fun _ => ?_) (fun _ => ?_) | omega | exact wrI (by omega) (by omega) | exact hk.el (by omega) | exact next ⟨‹_›, fun _ => ‹_›⟩ ‹_› | exact next ⟨‹_›, fun _ => by omega⟩ ‹_› | exact bo2_f (fun hb => tf ((hb.k i.toNat (by omega)).1) ‹_›) | exact bo2_f (fun hb => tf ((hb.k i.toNat (by omega)).2 (by omega)) ‹_›) | fail)
    exact bo2_l2 hk hp h6 h16 (fun j hj => hK j (by omega)) _ 0 emptyO rfl (by omega) (by omega) (fun j hj => by omega) (SetM.empty (by kernel_rfl)) (fun x y => ⟨fun h => (by rw [memO_empty] at h; cases h), fun ⟨j, hj, _⟩ => absurd hj (by omega)⟩)
end
theorem bo2_sem (ks ps : List (List DV)) (hk : Shp Try.prog 50 ks) (hp : Shp Try.prog 53 ps) : FunSem Try.prog 8 [] [.ag [.ro 50 ks, .ro 53 ps]] [] (bv (baseB ks ps)) := by
  refine bo2_of ks ps ?_
  refine FC.ev (by kernel_rfl) 100 (X := brP (decide ((↑(List.length ks) : Int) > (6 : Int))) (FC.Fin (c_bo2 ks ps) (AV.c (CV.v (Value.bool false))) []) (brP (decide ((↑(List.length ps) : Int) > (16 : Int))) (FC.Fin (c_bo2 ks ps) (AV.c (CV.v (Value.bool false))) []) (FC.At (c_bo2 ks ps) [(1 : Nat), (1 : Nat), (0 : Nat), (1 : Nat), (0 : Nat)] { sl := mkS (88 : Nat) [((1 : Nat), AV.c (CV.pt (0 : Nat) (0 : Nat))), ((20 : Nat), AV.c (CV.ro (50 : Nat) ks)), ((21 : Nat), AV.c (CV.v (Value.int IntKind.i64 (↑(List.length ks) : Int)))), ((22 : Nat), AV.c (CV.v (Value.int IntKind.i64 (0 : Int))))], hp := [some (AB.var (31 : Nat) [CV.ro (50 : Nat) ks, CV.ro (53 : Nat) ps])] }))) (by kernel_rfl) ?_
  refine brD (fun h => finV (bv_eq (baseB_f fun hb => by have := hb.h6; omega)) rfl) (fun h6 => brD (fun h => finV (bv_eq (baseB_f fun hb => by have := hb.h16; omega)) rfl) (fun h16 => ?_))
  exact bo2_l1 hk hp (by omega) (by omega) _ 0 rfl (by omega) (by omega) (fun j hj => by omega)
noncomputable def e_bo2 : CE Try.prog := CE.pure 8 [.ag [.l 50, .l 53]] (fun
  | [.ag [.ro 50 ks, .ro 53 ps]] => some ([Shp Try.prog 50 ks, Shp Try.prog 53 ps], bv (baseB ks ps), [])
  | _ => none) (by
  intro ys q v hp1 h hq
  split at h <;> cases h
  exact bo2_sem _ _ hq.1 hq.2.1)
end Go.Proofs.Ytekdfddodabfcaa
/- Contracts: the laws' own small functions over plain structs: sizes, copies, equality. (Printed by gen_laws.py.) -/
namespace Go.Proofs.Ytekdfddodabfcaa
open Go.RowKit
set_option linter.unusedVariables false
set_option linter.unusedSimpArgs false
/-! PlanKind -/
noncomputable def c_szKind (x0 : ByteArray) (x1 : Int) (x2 : Int) (left : Int) : FC := mkC Try.prog Try.f40 [0, 1, 2, 4] [0, 1, 2, 4, 11] [] [] 0 [] (iv (szN [x0.size] left))
theorem szKind_of (x0 : ByteArray) (x1 : Int) (x2 : Int) (left : Int) (h : (c_szKind x0 x1 x2 left).At [] ⟨mkS 13 [(0, .ag [.v (.string x0), .v (.int .i64 x1), .v (.int .i64 x2)]), (1, iv left)], []⟩) : FunSem Try.prog 40 [] [.ag [.v (.string x0), .v (.int .i64 x1), .v (.int .i64 x2)], iv left] [] (iv (szN [x0.size] left)) :=
  FC.sem (C := c_szKind x0 x1 x2 left) (m := 11) Try.func40 (by kernel_rfl) rfl rfl (by kernel_rfl) rfl rfl h
theorem szKind_sem (x0 : ByteArray) (x1 : Int) (x2 : Int) (left : Int) (h0 : 0 ≤ left) (h1 : left ≤ 1048576) (h0 : x0.size ≤ 9223372036854775807) : FunSem Try.prog 40 [] [.ag [.v (.string x0), .v (.int .i64 x1), .v (.int .i64 x2)], iv left] [] (iv (szN [x0.size] left)) := by
  refine szKind_of x0 x1 x2 left ?_
  refine FC.ev (by kernel_rfl) 100 (X := IntKind.wrap IntKind.i64 (left - (↑(ByteArray.size x0) : Int)) = left - (↑(ByteArray.size x0) : Int) ∧ brP (decide (left - (↑(ByteArray.size x0) : Int) < (0 : Int))) (FC.Fin (c_szKind x0 x1 x2 left) (AV.c (CV.v (Value.int IntKind.i64 (-1 : Int)))) []) (FC.Fin (c_szKind x0 x1 x2 left) (AV.c (CV.v (Value.int IntKind.i64 (left - (↑(ByteArray.size x0) : Int))))) [])) (by kernel_rfl) ?_
  repeat' (first | (with_reducible refine And.intro ?_ ?_) | refine brN ?_ | refine brD (fun _ => ?_) (fun _ => ?_) | refine brE (fun _ => ?_) (fun _ => ?_) | refine brEn (fun _ => ?_) (fun _ => ?_) | refine brEb (fun _ => ?_) (fun _ => ?_) | refine brS (fun _ => ?_) (fun _ => ?_) | refine brI (fun _ => ?_) (fun _ => ?_) | omega | exact wrI (by omega) (by omega) | refine finV (iv_eq ?_) rfl | fail)
  all_goals simp only [szN]
  all_goals (repeat' split)
  all_goals omega
noncomputable def e_szKind : CE Try.prog := CE.pure 40 [.ag [.x, .x, .x], .c .x] (fun
  | [.ag [.v (.string x0), .v (.int .i64 x1), .v (.int .i64 x2)], .c (.v (.int .i64 left))] => some ([0 ≤ left, left ≤ 1048576, x0.size ≤ 9223372036854775807], iv (szN [x0.size] left), [])
  | _ => none) (by
  intro ys q v hp1 h hq
  split at h <;> cases h
  exact szKind_sem _ _ _ _ hq.1 hq.2.1 hq.2.2.1)
noncomputable def c_szKinds (ls : List (List DV)) (left : Int) : FC := mkC Try.prog Try.f20 [0, 1, 4, 5] [0, 1, 4, 5, 11, 15, 25] [([1, 1, 1, 0, 1, 0], [0, 1, 5])] [e_szKind] 0 [] (iv (szS [0] ls left))
theorem szKinds_of (ls : List (List DV)) (left : Int) (h : (c_szKinds ls left).At [] ⟨mkS 27 [(0, .c (.ro 72 ls)), (1, iv left)], []⟩) : FunSem Try.prog 20 [] [.c (.ro 72 ls), iv left] [] (iv (szS [0] ls left)) :=
  FC.sem (C := c_szKinds ls left) (m := 25) Try.func20 (by kernel_rfl) rfl rfl (by kernel_rfl) rfl rfl h
theorem szKinds_l (ls : List (List DV)) (left : Int) (hS : Shp Try.prog 72 ls) (hB : StrB [0] ls) (hl : ls.length ≤ 1048576) (hr0 : szS [0] ls left = szRows [0] ls (left - ls.length)) : ∀ (m : Nat) (l i : Int), m = (ls.length - i).toNat → 0 ≤ i → i ≤ ls.length → 0 ≤ l → l ≤ 1048576 → szRows [0] (ls.drop i.toNat) l = szS [0] ls left →
    (c_szKinds ls left).At [1, 1, 1, 0, 1, 0] ⟨mkS 27 [(0, .c (.ro 72 ls)), (1, iv l), (5, iv i)], []⟩ := by
  intro m
  induction m using Nat.strongRecOn with
  | _ m ih =>
    intro l i hm h0 hn hl0 hl1 hr
    refine FC.loopB (by kernel_rfl) (by kernel_rfl) 100 (X := brP (decide (i < (↑(List.length ls) : Int))) ((0 : Int) ≤ i ∧ El Try.prog (72 : Nat) ls (Int.toNat i) ∧ (0 : Int) ≤ l ∧ l ≤ (1048576 : Int) ∧ ByteArray.size (cS ls (Int.toNat i) (0 : Nat)) ≤ (9223372036854775807 : Nat) ∧ brP (decide (szN [ByteArray.size (cS ls (Int.toNat i) (0 : Nat))] l < (0 : Int))) (FC.Fin (c_szKinds ls left) (AV.c (CV.v (Value.int IntKind.i64 (-1 : Int)))) []) (IntKind.wrap IntKind.i64 (i + (1 : Int)) = i + (1 : Int) ∧ FC.At (c_szKinds ls left) [(1 : Nat), (1 : Nat), (1 : Nat), (0 : Nat), (1 : Nat), (0 : Nat)] { sl := mkS (27 : Nat) [((0 : Nat), AV.c (CV.ro (72 : Nat) ls)), ((1 : Nat), AV.c (CV.v (Value.int IntKind.i64 (szN [ByteArray.size (cS ls (Int.toNat i) (0 : Nat))] l)))), ((5 : Nat), AV.c (CV.v (Value.int IntKind.i64 (i + (1 : Int)))))], hp := [] })) (FC.Fin (c_szKinds ls left) (AV.c (CV.v (Value.int IntKind.i64 l))) [])) (by kernel_rfl) ?_
    have hstep : i < ls.length → szRows [0] (ls.drop i.toNat) l = if szN [(cS ls i.toNat 0).size] l < 0 then -1 else szRows [0] (ls.drop (i + 1).toNat) (szN [(cS ls i.toNat 0).size] l) := fun h => by
      rw [show (i + 1).toNat = i.toNat + 1 by omega]; exact szRows_drop [0] (by omega) l
    have hle := szN_le [(cS ls i.toNat 0).size] l
    repeat' (first | (with_reducible refine And.intro ?_ ?_) | refine brN ?_ | refine brD (fun _ => ?_) (fun _ => ?_) | refine brE (fun _ => ?_) (fun _ => ?_) | refine brEn (fun _ => ?_) (fun _ => ?_) | refine brEb (fun _ => ?_) (fun _ => ?_) | refine brS (fun _ => ?_) (fun _ => ?_) | refine brI (fun _ => ?_) (fun _ => ?_) | omega | exact wrI (by omega) (by omega) | exact hS.el (by omega) | exact hB i.toNat (by omega) _ (by simp) | exact finV (iv_eq (by rw [← hr, hstep ‹_›, if_pos ‹_›])) rfl | exact ih _ (by omega) _ (i + 1) rfl (by omega) (by omega) (by omega) (by omega) (by rw [← hr, hstep ‹_›, if_neg ‹_›]) | fail)
    refine finV (iv_eq ?_) rfl
    rw [← hr, List.drop_eq_nil_of_le (by omega)]; rfl
theorem szKinds_sem (ls : List (List DV)) (left : Int) (hS : Shp Try.prog 72 ls) (hB : StrB [0] ls) (hl : ls.length ≤ 9223372036854775807) (h0 : 0 ≤ left) (h1 : left ≤ 1048576) : FunSem Try.prog 20 [] [.c (.ro 72 ls), iv left] [] (iv (szS [0] ls left)) := by
  refine szKinds_of ls left ?_
  refine FC.ev (by kernel_rfl) 100 (X := IntKind.wrap IntKind.i64 (left - (↑(List.length ls) : Int)) = left - (↑(List.length ls) : Int) ∧ brP (decide (left - (↑(List.length ls) : Int) < (0 : Int))) (FC.Fin (c_szKinds ls left) (AV.c (CV.v (Value.int IntKind.i64 (-1 : Int)))) []) (FC.At (c_szKinds ls left) [(1 : Nat), (1 : Nat), (1 : Nat), (0 : Nat), (1 : Nat), (0 : Nat)] { sl := mkS (27 : Nat) [((0 : Nat), AV.c (CV.ro (72 : Nat) ls)), ((1 : Nat), AV.c (CV.v (Value.int IntKind.i64 (left - (↑(List.length ls) : Int))))), ((5 : Nat), AV.c (CV.v (Value.int IntKind.i64 (0 : Int))))], hp := [] })) (by kernel_rfl) ?_
  repeat' (first | (with_reducible refine And.intro ?_ ?_) | refine brN ?_ | refine brD (fun _ => ?_) (fun _ => ?_) | refine brE (fun _ => ?_) (fun _ => ?_) | refine brEn (fun _ => ?_) (fun _ => ?_) | refine brEb (fun _ => ?_) (fun _ => ?_) | refine brS (fun _ => ?_) (fun _ => ?_) | refine brI (fun _ => ?_) (fun _ => ?_) | omega | exact wrI (by omega) (by omega) | fail)
  · exact finV (iv_eq (by unfold szS; rw [if_pos ‹_›])) rfl
  · have e : szS [0] ls left = szRows [0] ls (left - ls.length) := by unfold szS; rw [if_neg ‹_›]
    exact szKinds_l ls left hS hB (by omega) e _ _ 0 rfl (by omega) (by omega) (by omega) (by omega) (by rw [e]; rfl)
noncomputable def e_szKinds : CE Try.prog := CE.pure 20 [.c (.l 72), .c .x] (fun
  | [.c (.ro 72 ls), .c (.v (.int .i64 left))] => some ([Shp Try.prog 72 ls, StrB [0] ls, ls.length ≤ 9223372036854775807, 0 ≤ left, left ≤ 1048576], iv (szS [0] ls left), [])
  | _ => none) (by
  intro ys q v hp1 h hq
  split at h <;> cases h
  exact szKinds_sem _ _ hq.1 hq.2.1 hq.2.2.1 hq.2.2.2.1 hq.2.2.2.2.1)
noncomputable def c_toKind (x0 : ByteArray) (x1 : Int) (x2 : Int) : FC := mkC Try.prog Try.f44 [0, 1, 2, 3] [0, 1, 2, 3] [] [] 0 [] (.ag [.v (.string x0), .v (.int .i64 x1), .v (.int .i64 x2)])
theorem toKind_of (x0 : ByteArray) (x1 : Int) (x2 : Int) (h : (c_toKind x0 x1 x2).At [] ⟨mkS 14 [(0, .ag [.v (.string x0), .v (.int .i64 x1), .v (.int .i64 x2)])], []⟩) : FunSem Try.prog 44 [] [.ag [.v (.string x0), .v (.int .i64 x1), .v (.int .i64 x2)]] [] (.ag [.v (.string x0), .v (.int .i64 x1), .v (.int .i64 x2)]) :=
  FC.sem (C := c_toKind x0 x1 x2) (m := 13) Try.func44 (by kernel_rfl) rfl rfl (by kernel_rfl) rfl rfl h
theorem toKind_sem (x0 : ByteArray) (x1 : Int) (x2 : Int) : FunSem Try.prog 44 [] [.ag [.v (.string x0), .v (.int .i64 x1), .v (.int .i64 x2)]] [] (.ag [.v (.string x0), .v (.int .i64 x1), .v (.int .i64 x2)]) := by
  refine toKind_of x0 x1 x2 ?_
  refine FC.ev (by kernel_rfl) 100 (X := FC.Fin (c_toKind x0 x1 x2) (AV.ag [CV.v (Value.string x0), CV.v (Value.int IntKind.i64 x1), CV.v (Value.int IntKind.i64 x2)]) []) (by kernel_rfl) ?_
  exact finV rfl rfl
noncomputable def e_toKind : CE Try.prog := CE.pure 44 [.ag [.x, .x, .x]] (fun
  | [.ag [.v (.string x0), .v (.int .i64 x1), .v (.int .i64 x2)]] => some ([], .ag [.v (.string x0), .v (.int .i64 x1), .v (.int .i64 x2)], [])
  | _ => none) (by
  intro ys q v hp1 h hq
  split at h <;> cases h
  exact toKind_sem _ _ _)
noncomputable def c_toKinds (ls : List (List DV)) : FC := mkC Try.prog Try.f24 [0, 2, 3, 4] [0, 2, 3, 4, 11] [([1, 1, 0, 1, 0], [0, 3, 4])] [e_toKind] 0 [some (.row true 50 ls)] (.c (.sl 0 ls.length))
theorem toKinds_of (ls : List (List DV)) (h : (c_toKinds ls).At [] ⟨mkS 23 [(0, .c (.ro 72 ls))], []⟩) : FunSem Try.prog 24 [] [.c (.ro 72 ls)] [some (.row true 50 ls)] (.c (.sl 0 ls.length)) :=
  FC.sem (C := c_toKinds ls) (m := 22) Try.func24 (by kernel_rfl) rfl rfl (by kernel_rfl) rfl rfl h
theorem toKinds_l (ls : List (List DV)) (hS : Shp Try.prog 72 ls) (hl : ls.length ≤ 1048576) : ∀ (m : Nat) (i : Int) (ms : List (List DV)) (n : Nat), m = (ls.length - i).toNat → 0 ≤ i → i ≤ ls.length → n = ms.length → ms.length = ls.length → Shp Try.prog 50 ms → (∀ j, j < i.toNat → ms[j]? = ls[j]?) →
    (c_toKinds ls).At [1, 1, 0, 1, 0] ⟨mkS 23 [(0, .c (.ro 72 ls)), (3, .c (.sl 0 n)), (4, iv i)], [some (.row true 50 ms)]⟩ := by
  intro m
  induction m using Nat.strongRecOn with
  | _ m ih =>
    intro i ms n hm h0 hn hn2 hlen hS2 hms
    refine FC.loopB (by kernel_rfl) (by kernel_rfl) 100 (X := brP (decide (i < (↑(List.length ls) : Int))) ((0 : Int) ≤ i ∧ El Try.prog (72 : Nat) ls (Int.toNat i) ∧ (0 : Int) ≤ i ∧ (n = List.length ms ∧ Int.toNat i < n) ∧ El Try.prog (50 : Nat) ms (Int.toNat i) ∧ IntKind.wrap IntKind.i64 (i + (1 : Int)) = i + (1 : Int) ∧ FC.At (c_toKinds ls) [(1 : Nat), (1 : Nat), (0 : Nat), (1 : Nat), (0 : Nat)] { sl := mkS (23 : Nat) [((0 : Nat), AV.c (CV.ro (72 : Nat) ls)), ((3 : Nat), AV.c (CV.sl (0 : Nat) n)), ((4 : Nat), AV.c (CV.v (Value.int IntKind.i64 (i + (1 : Int)))))], hp := [some (AB.row true (50 : Nat) (List.set ms (Int.toNat i) [DV.s (Value.string (cS ls (Int.toNat i) (0 : Nat))), DV.s (Value.int IntKind.i64 (cI ls (Int.toNat i) (1 : Nat))), DV.s (Value.int IntKind.i64 (cI ls (Int.toNat i) (2 : Nat)))]))] }) (FC.Fin (c_toKinds ls) (AV.c (CV.sl (0 : Nat) n)) [some (AB.row true (50 : Nat) ms)])) (by kernel_rfl) ?_
    repeat' (first | (with_reducible refine And.intro ?_ ?_) | refine brN ?_ | refine brD (fun _ => ?_) (fun _ => ?_) | refine brE (fun _ => ?_) (fun _ => ?_) | refine brEn (fun _ => ?_) (fun _ => ?_) | refine brEb (fun _ => ?_) (fun _ => ?_) | refine brS (fun _ => ?_) (fun _ => ?_) | refine brI (fun _ => ?_) (fun _ => ?_) | omega | exact wrI (by omega) (by omega) | exact hS.el (by omega) | exact hS2.el (by omega) | fail)
    · refine ih _ (by omega) (i + 1) _ _ rfl (by omega) (by omega) (by simp; omega) (by simp; omega) (hS2.set (by kernel_rfl)) (fun j hj => ?_)
      exact set_step hlen hms (by omega) (by omega) (hS.el (by omega))
    · have : ms = ls := List.ext_getElem? fun j => by
        by_cases hj : j < i.toNat
        · exact hms j hj
        · rw [List.getElem?_eq_none (by omega), List.getElem?_eq_none (by omega)]
      subst this; subst hn2; exact finV rfl rfl
theorem toKinds_sem (ls : List (List DV)) (hS : Shp Try.prog 72 ls) (hl : ls.length ≤ 1048576) : FunSem Try.prog 24 [] [.c (.ro 72 ls)] [some (.row true 50 ls)] (.c (.sl 0 ls.length)) := by
  refine toKinds_of ls ?_
  refine FC.ev (by kernel_rfl) 100 (X := ((0 : Int) ≤ (↑(List.length ls) : Int) ∧ (↑(List.length ls) : Int) ≤ (↑(List.length ls) : Int) ∧ (↑(List.length ls) : Int) ≤ (140737488355328 : Int) ∧ (↑(List.length ls) : Int) * (↑(32 : Nat) : Int) ≤ (281474976710656 : Int)) ∧ FC.At (c_toKinds ls) [(1 : Nat), (1 : Nat), (0 : Nat), (1 : Nat), (0 : Nat)] { sl := mkS (23 : Nat) [((0 : Nat), AV.c (CV.ro (72 : Nat) ls)), ((3 : Nat), AV.c (CV.sl (0 : Nat) (List.length (List.replicate (Int.toNat (↑(List.length ls) : Int)) [DV.s (Value.string { data := #[] }), DV.s (Value.int IntKind.i64 (0 : Int)), DV.s (Value.int IntKind.i64 (0 : Int))])))), ((4 : Nat), AV.c (CV.v (Value.int IntKind.i64 (0 : Int))))], hp := [some (AB.row true (50 : Nat) (List.replicate (Int.toNat (↑(List.length ls) : Int)) [DV.s (Value.string { data := #[] }), DV.s (Value.int IntKind.i64 (0 : Int)), DV.s (Value.int IntKind.i64 (0 : Int))]))] }) (by kernel_rfl) ?_
  repeat' (first | (with_reducible refine And.intro ?_ ?_) | refine brN ?_ | refine brD (fun _ => ?_) (fun _ => ?_) | refine brE (fun _ => ?_) (fun _ => ?_) | refine brEn (fun _ => ?_) (fun _ => ?_) | refine brEb (fun _ => ?_) (fun _ => ?_) | refine brS (fun _ => ?_) (fun _ => ?_) | refine brI (fun _ => ?_) (fun _ => ?_) | omega | exact wrI (by omega) (by omega) | fail)
  exact toKinds_l ls hS hl _ 0 _ _ rfl (by omega) (by omega) rfl (by simp) (Shp.replicate (by kernel_rfl)) (fun j hj => by omega)
noncomputable def e_toKinds : CE Try.prog := CE.pure 24 [.c (.l 72)] (fun
  | [.c (.ro 72 ls)] => some ([Shp Try.prog 72 ls, ls.length ≤ 1048576], .c (.sl 0 ls.length), [some (.row true 50 ls)])
  | _ => none) (by
  intro ys q v hp1 h hq
  split at h <;> cases h
  exact toKinds_sem _ hq.1 hq.2.1)
noncomputable def c_eqKind (x0 : ByteArray) (x1 : Int) (x2 : Int) : FC := mkC Try.prog Try.f48 [0, 1, 2, 3, 4] [0, 1, 2, 3, 4, 9, 14, 19] [] [] 0 [] (bv true)
theorem eqKind_of (x0 : ByteArray) (x1 : Int) (x2 : Int) (h : (c_eqKind x0 x1 x2).At [] ⟨mkS 20 [(0, .ag [.v (.string x0), .v (.int .i64 x1), .v (.int .i64 x2)]), (1, .ag [.v (.string x0), .v (.int .i64 x1), .v (.int .i64 x2)])], []⟩) : FunSem Try.prog 48 [] [.ag [.v (.string x0), .v (.int .i64 x1), .v (.int .i64 x2)], .ag [.v (.string x0), .v (.int .i64 x1), .v (.int .i64 x2)]] [] (bv true) :=
  FC.sem (C := c_eqKind x0 x1 x2) (m := 18) Try.func48 (by kernel_rfl) rfl rfl (by kernel_rfl) rfl rfl h
theorem eqKind_sem (x0 : ByteArray) (x1 : Int) (x2 : Int) : FunSem Try.prog 48 [] [.ag [.v (.string x0), .v (.int .i64 x1), .v (.int .i64 x2)], .ag [.v (.string x0), .v (.int .i64 x1), .v (.int .i64 x2)]] [] (bv true) := by
  refine eqKind_of x0 x1 x2 ?_
  refine FC.ev (by kernel_rfl) 100 (X := brP (!ByteArray.toList x0 == ByteArray.toList x0) (FC.Fin (c_eqKind x0 x1 x2) (AV.c (CV.v (Value.bool false))) []) (brP (x1 != x1) (FC.Fin (c_eqKind x0 x1 x2) (AV.c (CV.v (Value.bool false))) []) (brP (x2 != x2) (FC.Fin (c_eqKind x0 x1 x2) (AV.c (CV.v (Value.bool false))) []) (FC.Fin (c_eqKind x0 x1 x2) (AV.c (CV.v (Value.bool true))) [])))) (by kernel_rfl) ?_
  repeat' (first | (with_reducible refine And.intro ?_ ?_) | refine brN ?_ | refine brD (fun _ => ?_) (fun _ => ?_) | refine brE (fun _ => ?_) (fun _ => ?_) | refine brEn (fun _ => ?_) (fun _ => ?_) | refine brEb (fun _ => ?_) (fun _ => ?_) | refine brS (fun _ => ?_) (fun _ => ?_) | refine brI (fun _ => ?_) (fun _ => ?_) | omega | exact wrI (by omega) (by omega) | exact finV rfl rfl | exact absurd rfl ‹_› | fail)
noncomputable def e_eqKind : CE Try.prog := CE.pure 48 [.ag [.x, .x, .x], .ag [.x, .x, .x]] (fun
  | [.ag [.v (.string x0), .v (.int .i64 x1), .v (.int .i64 x2)], .ag [.v (.string y0), .v (.int .i64 y1), .v (.int .i64 y2)]] => some ([x0 = y0, x1 = y1, x2 = y2], bv true, [])
  | _ => none) (by
  intro ys q v hp1 h hq
  split at h <;> cases h
  exact (by have e := hq; simp only [andL] at e; obtain ⟨rfl, rfl, rfl, -⟩ := e; exact eqKind_sem _ _ _))
noncomputable def c_eqKinds (ls : List (List DV)) : FC := mkC Try.prog Try.f28 [0, 1, 4, 5] [0, 1, 4, 5, 10, 14, 26] [([1, 1, 0, 1, 0], [0, 1, 5])] [e_eqKind] 0 [] (bv true)
theorem eqKinds_of (ls : List (List DV)) (h : (c_eqKinds ls).At [] ⟨mkS 27 [(0, .c (.ro 50 ls)), (1, .c (.ro 50 ls))], []⟩) : FunSem Try.prog 28 [] [.c (.ro 50 ls), .c (.ro 50 ls)] [] (bv true) :=
  FC.sem (C := c_eqKinds ls) (m := 25) Try.func28 (by kernel_rfl) rfl rfl (by kernel_rfl) rfl rfl h
theorem eqKinds_l (ls : List (List DV)) (hS : Shp Try.prog 50 ls) (hl : ls.length ≤ 1048576) : ∀ (m : Nat) (i : Int), m = (ls.length - i).toNat → 0 ≤ i → i ≤ ls.length →
    (c_eqKinds ls).At [1, 1, 0, 1, 0] ⟨mkS 27 [(0, .c (.ro 50 ls)), (1, .c (.ro 50 ls)), (5, iv i)], []⟩ := by
  intro m
  induction m using Nat.strongRecOn with
  | _ m ih =>
    intro i hm h0 hn
    refine FC.loopB (by kernel_rfl) (by kernel_rfl) 100 (X := brP (decide (i < (↑(List.length ls) : Int))) ((0 : Int) ≤ i ∧ El Try.prog (50 : Nat) ls (Int.toNat i) ∧ (0 : Int) ≤ i ∧ El Try.prog (50 : Nat) ls (Int.toNat i) ∧ cS ls (Int.toNat i) (0 : Nat) = cS ls (Int.toNat i) (0 : Nat) ∧ cI ls (Int.toNat i) (1 : Nat) = cI ls (Int.toNat i) (1 : Nat) ∧ cI ls (Int.toNat i) (2 : Nat) = cI ls (Int.toNat i) (2 : Nat) ∧ IntKind.wrap IntKind.i64 (i + (1 : Int)) = i + (1 : Int) ∧ FC.At (c_eqKinds ls) [(1 : Nat), (1 : Nat), (0 : Nat), (1 : Nat), (0 : Nat)] { sl := mkS (27 : Nat) [((0 : Nat), AV.c (CV.ro (50 : Nat) ls)), ((1 : Nat), AV.c (CV.ro (50 : Nat) ls)), ((5 : Nat), AV.c (CV.v (Value.int IntKind.i64 (i + (1 : Int)))))], hp := [] }) (FC.Fin (c_eqKinds ls) (AV.c (CV.v (Value.bool true))) [])) (by kernel_rfl) ?_
    repeat' (first | (with_reducible refine And.intro ?_ ?_) | refine brN ?_ | refine brD (fun _ => ?_) (fun _ => ?_) | refine brE (fun _ => ?_) (fun _ => ?_) | refine brEn (fun _ => ?_) (fun _ => ?_) | refine brEb (fun _ => ?_) (fun _ => ?_) | refine brS (fun _ => ?_) (fun _ => ?_) | refine brI (fun _ => ?_) (fun _ => ?_) | omega | exact wrI (by omega) (by omega) | rfl | exact hS.el (by omega) | exact finV rfl rfl | exact ih _ (by omega) (i + 1) rfl (by omega) (by omega) | fail)
theorem eqKinds_sem (ls : List (List DV)) (hS : Shp Try.prog 50 ls) (hl : ls.length ≤ 1048576) : FunSem Try.prog 28 [] [.c (.ro 50 ls), .c (.ro 50 ls)] [] (bv true) := by
  refine eqKinds_of ls ?_
  refine FC.ev (by kernel_rfl) 100 (X := brP ((↑(List.length ls) : Int) != (↑(List.length ls) : Int)) (FC.Fin (c_eqKinds ls) (AV.c (CV.v (Value.bool false))) []) (FC.At (c_eqKinds ls) [(1 : Nat), (1 : Nat), (0 : Nat), (1 : Nat), (0 : Nat)] { sl := mkS (27 : Nat) [((0 : Nat), AV.c (CV.ro (50 : Nat) ls)), ((1 : Nat), AV.c (CV.ro (50 : Nat) ls)), ((5 : Nat), AV.c (CV.v (Value.int IntKind.i64 (0 : Int))))], hp := [] })) (by kernel_rfl) ?_
  repeat' (first | (with_reducible refine And.intro ?_ ?_) | refine brN ?_ | refine brD (fun _ => ?_) (fun _ => ?_) | refine brE (fun _ => ?_) (fun _ => ?_) | refine brEn (fun _ => ?_) (fun _ => ?_) | refine brEb (fun _ => ?_) (fun _ => ?_) | refine brS (fun _ => ?_) (fun _ => ?_) | refine brI (fun _ => ?_) (fun _ => ?_) | omega | exact wrI (by omega) (by omega) | exact absurd rfl ‹_› | exact eqKinds_l ls hS hl _ 0 rfl (by omega) (by omega) | fail)
noncomputable def e_eqKinds : CE Try.prog := CE.pure 28 [.c (.l 50), .c (.l 50)] (fun
  | [.c (.ro 50 ls), .c (.ro 50 ms)] => some ([ls = ms, Shp Try.prog 50 ls, ls.length ≤ 1048576], bv true, [])
  | _ => none) (by
  intro ys q v hp1 h hq
  split at h <;> cases h
  exact (by have e := hq; simp only [andL] at e; obtain ⟨rfl, h1, h2, -⟩ := e; exact eqKinds_sem _ h1 h2))
/-! PlanPoint -/
noncomputable def c_szPoint (x0 : ByteArray) (x1 : Int) (x2 : Int) (left : Int) : FC := mkC Try.prog Try.f41 [0, 1, 2, 4] [0, 1, 2, 4, 11] [] [] 0 [] (iv (szN [x0.size] left))
theorem szPoint_of (x0 : ByteArray) (x1 : Int) (x2 : Int) (left : Int) (h : (c_szPoint x0 x1 x2 left).At [] ⟨mkS 13 [(0, .ag [.v (.string x0), .v (.int .i64 x1), .v (.int .i64 x2)]), (1, iv left)], []⟩) : FunSem Try.prog 41 [] [.ag [.v (.string x0), .v (.int .i64 x1), .v (.int .i64 x2)], iv left] [] (iv (szN [x0.size] left)) :=
  FC.sem (C := c_szPoint x0 x1 x2 left) (m := 11) Try.func41 (by kernel_rfl) rfl rfl (by kernel_rfl) rfl rfl h
theorem szPoint_sem (x0 : ByteArray) (x1 : Int) (x2 : Int) (left : Int) (h0 : 0 ≤ left) (h1 : left ≤ 1048576) (h0 : x0.size ≤ 9223372036854775807) : FunSem Try.prog 41 [] [.ag [.v (.string x0), .v (.int .i64 x1), .v (.int .i64 x2)], iv left] [] (iv (szN [x0.size] left)) := by
  refine szPoint_of x0 x1 x2 left ?_
  refine FC.ev (by kernel_rfl) 100 (X := IntKind.wrap IntKind.i64 (left - (↑(ByteArray.size x0) : Int)) = left - (↑(ByteArray.size x0) : Int) ∧ brP (decide (left - (↑(ByteArray.size x0) : Int) < (0 : Int))) (FC.Fin (c_szPoint x0 x1 x2 left) (AV.c (CV.v (Value.int IntKind.i64 (-1 : Int)))) []) (FC.Fin (c_szPoint x0 x1 x2 left) (AV.c (CV.v (Value.int IntKind.i64 (left - (↑(ByteArray.size x0) : Int))))) [])) (by kernel_rfl) ?_
  repeat' (first | (with_reducible refine And.intro ?_ ?_) | refine brN ?_ | refine brD (fun _ => ?_) (fun _ => ?_) | refine brE (fun _ => ?_) (fun _ => ?_) | refine brEn (fun _ => ?_) (fun _ => ?_) | refine brEb (fun _ => ?_) (fun _ => ?_) | refine brS (fun _ => ?_) (fun _ => ?_) | refine brI (fun _ => ?_) (fun _ => ?_) | omega | exact wrI (by omega) (by omega) | refine finV (iv_eq ?_) rfl | fail)
  all_goals simp only [szN]
  all_goals (repeat' split)
  all_goals omega
noncomputable def e_szPoint : CE Try.prog := CE.pure 41 [.ag [.x, .x, .x], .c .x] (fun
  | [.ag [.v (.string x0), .v (.int .i64 x1), .v (.int .i64 x2)], .c (.v (.int .i64 left))] => some ([0 ≤ left, left ≤ 1048576, x0.size ≤ 9223372036854775807], iv (szN [x0.size] left), [])
  | _ => none) (by
  intro ys q v hp1 h hq
  split at h <;> cases h
  exact szPoint_sem _ _ _ _ hq.1 hq.2.1 hq.2.2.1)
noncomputable def c_szPoints (ls : List (List DV)) (left : Int) : FC := mkC Try.prog Try.f21 [0, 1, 4, 5] [0, 1, 4, 5, 11, 15, 25] [([1, 1, 1, 0, 1, 0], [0, 1, 5])] [e_szPoint] 0 [] (iv (szS [0] ls left))
theorem szPoints_of (ls : List (List DV)) (left : Int) (h : (c_szPoints ls left).At [] ⟨mkS 27 [(0, .c (.ro 74 ls)), (1, iv left)], []⟩) : FunSem Try.prog 21 [] [.c (.ro 74 ls), iv left] [] (iv (szS [0] ls left)) :=
  FC.sem (C := c_szPoints ls left) (m := 25) Try.func21 (by kernel_rfl) rfl rfl (by kernel_rfl) rfl rfl h
theorem szPoints_l (ls : List (List DV)) (left : Int) (hS : Shp Try.prog 74 ls) (hB : StrB [0] ls) (hl : ls.length ≤ 1048576) (hr0 : szS [0] ls left = szRows [0] ls (left - ls.length)) : ∀ (m : Nat) (l i : Int), m = (ls.length - i).toNat → 0 ≤ i → i ≤ ls.length → 0 ≤ l → l ≤ 1048576 → szRows [0] (ls.drop i.toNat) l = szS [0] ls left →
    (c_szPoints ls left).At [1, 1, 1, 0, 1, 0] ⟨mkS 27 [(0, .c (.ro 74 ls)), (1, iv l), (5, iv i)], []⟩ := by
  intro m
  induction m using Nat.strongRecOn with
  | _ m ih =>
    intro l i hm h0 hn hl0 hl1 hr
    refine FC.loopB (by kernel_rfl) (by kernel_rfl) 100 (X := brP (decide (i < (↑(List.length ls) : Int))) ((0 : Int) ≤ i ∧ El Try.prog (74 : Nat) ls (Int.toNat i) ∧ (0 : Int) ≤ l ∧ l ≤ (1048576 : Int) ∧ ByteArray.size (cS ls (Int.toNat i) (0 : Nat)) ≤ (9223372036854775807 : Nat) ∧ brP (decide (szN [ByteArray.size (cS ls (Int.toNat i) (0 : Nat))] l < (0 : Int))) (FC.Fin (c_szPoints ls left) (AV.c (CV.v (Value.int IntKind.i64 (-1 : Int)))) []) (IntKind.wrap IntKind.i64 (i + (1 : Int)) = i + (1 : Int) ∧ FC.At (c_szPoints ls left) [(1 : Nat), (1 : Nat), (1 : Nat), (0 : Nat), (1 : Nat), (0 : Nat)] { sl := mkS (27 : Nat) [((0 : Nat), AV.c (CV.ro (74 : Nat) ls)), ((1 : Nat), AV.c (CV.v (Value.int IntKind.i64 (szN [ByteArray.size (cS ls (Int.toNat i) (0 : Nat))] l)))), ((5 : Nat), AV.c (CV.v (Value.int IntKind.i64 (i + (1 : Int)))))], hp := [] })) (FC.Fin (c_szPoints ls left) (AV.c (CV.v (Value.int IntKind.i64 l))) [])) (by kernel_rfl) ?_
    have hstep : i < ls.length → szRows [0] (ls.drop i.toNat) l = if szN [(cS ls i.toNat 0).size] l < 0 then -1 else szRows [0] (ls.drop (i + 1).toNat) (szN [(cS ls i.toNat 0).size] l) := fun h => by
      rw [show (i + 1).toNat = i.toNat + 1 by omega]; exact szRows_drop [0] (by omega) l
    have hle := szN_le [(cS ls i.toNat 0).size] l
    repeat' (first | (with_reducible refine And.intro ?_ ?_) | refine brN ?_ | refine brD (fun _ => ?_) (fun _ => ?_) | refine brE (fun _ => ?_) (fun _ => ?_) | refine brEn (fun _ => ?_) (fun _ => ?_) | refine brEb (fun _ => ?_) (fun _ => ?_) | refine brS (fun _ => ?_) (fun _ => ?_) | refine brI (fun _ => ?_) (fun _ => ?_) | omega | exact wrI (by omega) (by omega) | exact hS.el (by omega) | exact hB i.toNat (by omega) _ (by simp) | exact finV (iv_eq (by rw [← hr, hstep ‹_›, if_pos ‹_›])) rfl | exact ih _ (by omega) _ (i + 1) rfl (by omega) (by omega) (by omega) (by omega) (by rw [← hr, hstep ‹_›, if_neg ‹_›]) | fail)
    refine finV (iv_eq ?_) rfl
    rw [← hr, List.drop_eq_nil_of_le (by omega)]; rfl
theorem szPoints_sem (ls : List (List DV)) (left : Int) (hS : Shp Try.prog 74 ls) (hB : StrB [0] ls) (hl : ls.length ≤ 9223372036854775807) (h0 : 0 ≤ left) (h1 : left ≤ 1048576) : FunSem Try.prog 21 [] [.c (.ro 74 ls), iv left] [] (iv (szS [0] ls left)) := by
  refine szPoints_of ls left ?_
  refine FC.ev (by kernel_rfl) 100 (X := IntKind.wrap IntKind.i64 (left - (↑(List.length ls) : Int)) = left - (↑(List.length ls) : Int) ∧ brP (decide (left - (↑(List.length ls) : Int) < (0 : Int))) (FC.Fin (c_szPoints ls left) (AV.c (CV.v (Value.int IntKind.i64 (-1 : Int)))) []) (FC.At (c_szPoints ls left) [(1 : Nat), (1 : Nat), (1 : Nat), (0 : Nat), (1 : Nat), (0 : Nat)] { sl := mkS (27 : Nat) [((0 : Nat), AV.c (CV.ro (74 : Nat) ls)), ((1 : Nat), AV.c (CV.v (Value.int IntKind.i64 (left - (↑(List.length ls) : Int))))), ((5 : Nat), AV.c (CV.v (Value.int IntKind.i64 (0 : Int))))], hp := [] })) (by kernel_rfl) ?_
  repeat' (first | (with_reducible refine And.intro ?_ ?_) | refine brN ?_ | refine brD (fun _ => ?_) (fun _ => ?_) | refine brE (fun _ => ?_) (fun _ => ?_) | refine brEn (fun _ => ?_) (fun _ => ?_) | refine brEb (fun _ => ?_) (fun _ => ?_) | refine brS (fun _ => ?_) (fun _ => ?_) | refine brI (fun _ => ?_) (fun _ => ?_) | omega | exact wrI (by omega) (by omega) | fail)
  · exact finV (iv_eq (by unfold szS; rw [if_pos ‹_›])) rfl
  · have e : szS [0] ls left = szRows [0] ls (left - ls.length) := by unfold szS; rw [if_neg ‹_›]
    exact szPoints_l ls left hS hB (by omega) e _ _ 0 rfl (by omega) (by omega) (by omega) (by omega) (by rw [e]; rfl)
noncomputable def e_szPoints : CE Try.prog := CE.pure 21 [.c (.l 74), .c .x] (fun
  | [.c (.ro 74 ls), .c (.v (.int .i64 left))] => some ([Shp Try.prog 74 ls, StrB [0] ls, ls.length ≤ 9223372036854775807, 0 ≤ left, left ≤ 1048576], iv (szS [0] ls left), [])
  | _ => none) (by
  intro ys q v hp1 h hq
  split at h <;> cases h
  exact szPoints_sem _ _ hq.1 hq.2.1 hq.2.2.1 hq.2.2.2.1 hq.2.2.2.2.1)
noncomputable def c_toPoint (x0 : ByteArray) (x1 : Int) (x2 : Int) : FC := mkC Try.prog Try.f45 [0, 1, 2, 3] [0, 1, 2, 3] [] [] 0 [] (.ag [.v (.string x0), .v (.int .i64 x1), .v (.int .i64 x2)])
theorem toPoint_of (x0 : ByteArray) (x1 : Int) (x2 : Int) (h : (c_toPoint x0 x1 x2).At [] ⟨mkS 14 [(0, .ag [.v (.string x0), .v (.int .i64 x1), .v (.int .i64 x2)])], []⟩) : FunSem Try.prog 45 [] [.ag [.v (.string x0), .v (.int .i64 x1), .v (.int .i64 x2)]] [] (.ag [.v (.string x0), .v (.int .i64 x1), .v (.int .i64 x2)]) :=
  FC.sem (C := c_toPoint x0 x1 x2) (m := 13) Try.func45 (by kernel_rfl) rfl rfl (by kernel_rfl) rfl rfl h
theorem toPoint_sem (x0 : ByteArray) (x1 : Int) (x2 : Int) : FunSem Try.prog 45 [] [.ag [.v (.string x0), .v (.int .i64 x1), .v (.int .i64 x2)]] [] (.ag [.v (.string x0), .v (.int .i64 x1), .v (.int .i64 x2)]) := by
  refine toPoint_of x0 x1 x2 ?_
  refine FC.ev (by kernel_rfl) 100 (X := FC.Fin (c_toPoint x0 x1 x2) (AV.ag [CV.v (Value.string x0), CV.v (Value.int IntKind.i64 x1), CV.v (Value.int IntKind.i64 x2)]) []) (by kernel_rfl) ?_
  exact finV rfl rfl
noncomputable def e_toPoint : CE Try.prog := CE.pure 45 [.ag [.x, .x, .x]] (fun
  | [.ag [.v (.string x0), .v (.int .i64 x1), .v (.int .i64 x2)]] => some ([], .ag [.v (.string x0), .v (.int .i64 x1), .v (.int .i64 x2)], [])
  | _ => none) (by
  intro ys q v hp1 h hq
  split at h <;> cases h
  exact toPoint_sem _ _ _)
noncomputable def c_toPoints (ls : List (List DV)) : FC := mkC Try.prog Try.f25 [0, 2, 3, 4] [0, 2, 3, 4, 11] [([1, 1, 0, 1, 0], [0, 3, 4])] [e_toPoint] 0 [some (.row true 53 ls)] (.c (.sl 0 ls.length))
theorem toPoints_of (ls : List (List DV)) (h : (c_toPoints ls).At [] ⟨mkS 23 [(0, .c (.ro 74 ls))], []⟩) : FunSem Try.prog 25 [] [.c (.ro 74 ls)] [some (.row true 53 ls)] (.c (.sl 0 ls.length)) :=
  FC.sem (C := c_toPoints ls) (m := 22) Try.func25 (by kernel_rfl) rfl rfl (by kernel_rfl) rfl rfl h
theorem toPoints_l (ls : List (List DV)) (hS : Shp Try.prog 74 ls) (hl : ls.length ≤ 1048576) : ∀ (m : Nat) (i : Int) (ms : List (List DV)) (n : Nat), m = (ls.length - i).toNat → 0 ≤ i → i ≤ ls.length → n = ms.length → ms.length = ls.length → Shp Try.prog 53 ms → (∀ j, j < i.toNat → ms[j]? = ls[j]?) →
    (c_toPoints ls).At [1, 1, 0, 1, 0] ⟨mkS 23 [(0, .c (.ro 74 ls)), (3, .c (.sl 0 n)), (4, iv i)], [some (.row true 53 ms)]⟩ := by
  intro m
  induction m using Nat.strongRecOn with
  | _ m ih =>
    intro i ms n hm h0 hn hn2 hlen hS2 hms
    refine FC.loopB (by kernel_rfl) (by kernel_rfl) 100 (X := brP (decide (i < (↑(List.length ls) : Int))) ((0 : Int) ≤ i ∧ El Try.prog (74 : Nat) ls (Int.toNat i) ∧ (0 : Int) ≤ i ∧ (n = List.length ms ∧ Int.toNat i < n) ∧ El Try.prog (53 : Nat) ms (Int.toNat i) ∧ IntKind.wrap IntKind.i64 (i + (1 : Int)) = i + (1 : Int) ∧ FC.At (c_toPoints ls) [(1 : Nat), (1 : Nat), (0 : Nat), (1 : Nat), (0 : Nat)] { sl := mkS (23 : Nat) [((0 : Nat), AV.c (CV.ro (74 : Nat) ls)), ((3 : Nat), AV.c (CV.sl (0 : Nat) n)), ((4 : Nat), AV.c (CV.v (Value.int IntKind.i64 (i + (1 : Int)))))], hp := [some (AB.row true (53 : Nat) (List.set ms (Int.toNat i) [DV.s (Value.string (cS ls (Int.toNat i) (0 : Nat))), DV.s (Value.int IntKind.i64 (cI ls (Int.toNat i) (1 : Nat))), DV.s (Value.int IntKind.i64 (cI ls (Int.toNat i) (2 : Nat)))]))] }) (FC.Fin (c_toPoints ls) (AV.c (CV.sl (0 : Nat) n)) [some (AB.row true (53 : Nat) ms)])) (by kernel_rfl) ?_
    repeat' (first | (with_reducible refine And.intro ?_ ?_) | refine brN ?_ | refine brD (fun _ => ?_) (fun _ => ?_) | refine brE (fun _ => ?_) (fun _ => ?_) | refine brEn (fun _ => ?_) (fun _ => ?_) | refine brEb (fun _ => ?_) (fun _ => ?_) | refine brS (fun _ => ?_) (fun _ => ?_) | refine brI (fun _ => ?_) (fun _ => ?_) | omega | exact wrI (by omega) (by omega) | exact hS.el (by omega) | exact hS2.el (by omega) | fail)
    · refine ih _ (by omega) (i + 1) _ _ rfl (by omega) (by omega) (by simp; omega) (by simp; omega) (hS2.set (by kernel_rfl)) (fun j hj => ?_)
      exact set_step hlen hms (by omega) (by omega) (hS.el (by omega))
    · have : ms = ls := List.ext_getElem? fun j => by
        by_cases hj : j < i.toNat
        · exact hms j hj
        · rw [List.getElem?_eq_none (by omega), List.getElem?_eq_none (by omega)]
      subst this; subst hn2; exact finV rfl rfl
theorem toPoints_sem (ls : List (List DV)) (hS : Shp Try.prog 74 ls) (hl : ls.length ≤ 1048576) : FunSem Try.prog 25 [] [.c (.ro 74 ls)] [some (.row true 53 ls)] (.c (.sl 0 ls.length)) := by
  refine toPoints_of ls ?_
  refine FC.ev (by kernel_rfl) 100 (X := ((0 : Int) ≤ (↑(List.length ls) : Int) ∧ (↑(List.length ls) : Int) ≤ (↑(List.length ls) : Int) ∧ (↑(List.length ls) : Int) ≤ (140737488355328 : Int) ∧ (↑(List.length ls) : Int) * (↑(32 : Nat) : Int) ≤ (281474976710656 : Int)) ∧ FC.At (c_toPoints ls) [(1 : Nat), (1 : Nat), (0 : Nat), (1 : Nat), (0 : Nat)] { sl := mkS (23 : Nat) [((0 : Nat), AV.c (CV.ro (74 : Nat) ls)), ((3 : Nat), AV.c (CV.sl (0 : Nat) (List.length (List.replicate (Int.toNat (↑(List.length ls) : Int)) [DV.s (Value.string { data := #[] }), DV.s (Value.int IntKind.i64 (0 : Int)), DV.s (Value.int IntKind.i64 (0 : Int))])))), ((4 : Nat), AV.c (CV.v (Value.int IntKind.i64 (0 : Int))))], hp := [some (AB.row true (53 : Nat) (List.replicate (Int.toNat (↑(List.length ls) : Int)) [DV.s (Value.string { data := #[] }), DV.s (Value.int IntKind.i64 (0 : Int)), DV.s (Value.int IntKind.i64 (0 : Int))]))] }) (by kernel_rfl) ?_
  repeat' (first | (with_reducible refine And.intro ?_ ?_) | refine brN ?_ | refine brD (fun _ => ?_) (fun _ => ?_) | refine brE (fun _ => ?_) (fun _ => ?_) | refine brEn (fun _ => ?_) (fun _ => ?_) | refine brEb (fun _ => ?_) (fun _ => ?_) | refine brS (fun _ => ?_) (fun _ => ?_) | refine brI (fun _ => ?_) (fun _ => ?_) | omega | exact wrI (by omega) (by omega) | fail)
  exact toPoints_l ls hS hl _ 0 _ _ rfl (by omega) (by omega) rfl (by simp) (Shp.replicate (by kernel_rfl)) (fun j hj => by omega)
noncomputable def e_toPoints : CE Try.prog := CE.pure 25 [.c (.l 74)] (fun
  | [.c (.ro 74 ls)] => some ([Shp Try.prog 74 ls, ls.length ≤ 1048576], .c (.sl 0 ls.length), [some (.row true 53 ls)])
  | _ => none) (by
  intro ys q v hp1 h hq
  split at h <;> cases h
  exact toPoints_sem _ hq.1 hq.2.1)
noncomputable def c_eqPoint (x0 : ByteArray) (x1 : Int) (x2 : Int) : FC := mkC Try.prog Try.f49 [0, 1, 2, 3, 4] [0, 1, 2, 3, 4, 9, 14, 19] [] [] 0 [] (bv true)
theorem eqPoint_of (x0 : ByteArray) (x1 : Int) (x2 : Int) (h : (c_eqPoint x0 x1 x2).At [] ⟨mkS 20 [(0, .ag [.v (.string x0), .v (.int .i64 x1), .v (.int .i64 x2)]), (1, .ag [.v (.string x0), .v (.int .i64 x1), .v (.int .i64 x2)])], []⟩) : FunSem Try.prog 49 [] [.ag [.v (.string x0), .v (.int .i64 x1), .v (.int .i64 x2)], .ag [.v (.string x0), .v (.int .i64 x1), .v (.int .i64 x2)]] [] (bv true) :=
  FC.sem (C := c_eqPoint x0 x1 x2) (m := 18) Try.func49 (by kernel_rfl) rfl rfl (by kernel_rfl) rfl rfl h
theorem eqPoint_sem (x0 : ByteArray) (x1 : Int) (x2 : Int) : FunSem Try.prog 49 [] [.ag [.v (.string x0), .v (.int .i64 x1), .v (.int .i64 x2)], .ag [.v (.string x0), .v (.int .i64 x1), .v (.int .i64 x2)]] [] (bv true) := by
  refine eqPoint_of x0 x1 x2 ?_
  refine FC.ev (by kernel_rfl) 100 (X := brP (!ByteArray.toList x0 == ByteArray.toList x0) (FC.Fin (c_eqPoint x0 x1 x2) (AV.c (CV.v (Value.bool false))) []) (brP (x1 != x1) (FC.Fin (c_eqPoint x0 x1 x2) (AV.c (CV.v (Value.bool false))) []) (brP (x2 != x2) (FC.Fin (c_eqPoint x0 x1 x2) (AV.c (CV.v (Value.bool false))) []) (FC.Fin (c_eqPoint x0 x1 x2) (AV.c (CV.v (Value.bool true))) [])))) (by kernel_rfl) ?_
  repeat' (first | (with_reducible refine And.intro ?_ ?_) | refine brN ?_ | refine brD (fun _ => ?_) (fun _ => ?_) | refine brE (fun _ => ?_) (fun _ => ?_) | refine brEn (fun _ => ?_) (fun _ => ?_) | refine brEb (fun _ => ?_) (fun _ => ?_) | refine brS (fun _ => ?_) (fun _ => ?_) | refine brI (fun _ => ?_) (fun _ => ?_) | omega | exact wrI (by omega) (by omega) | exact finV rfl rfl | exact absurd rfl ‹_› | fail)
noncomputable def e_eqPoint : CE Try.prog := CE.pure 49 [.ag [.x, .x, .x], .ag [.x, .x, .x]] (fun
  | [.ag [.v (.string x0), .v (.int .i64 x1), .v (.int .i64 x2)], .ag [.v (.string y0), .v (.int .i64 y1), .v (.int .i64 y2)]] => some ([x0 = y0, x1 = y1, x2 = y2], bv true, [])
  | _ => none) (by
  intro ys q v hp1 h hq
  split at h <;> cases h
  exact (by have e := hq; simp only [andL] at e; obtain ⟨rfl, rfl, rfl, -⟩ := e; exact eqPoint_sem _ _ _))
noncomputable def c_eqPoints (ls : List (List DV)) : FC := mkC Try.prog Try.f29 [0, 1, 4, 5] [0, 1, 4, 5, 10, 14, 26] [([1, 1, 0, 1, 0], [0, 1, 5])] [e_eqPoint] 0 [] (bv true)
theorem eqPoints_of (ls : List (List DV)) (h : (c_eqPoints ls).At [] ⟨mkS 27 [(0, .c (.ro 53 ls)), (1, .c (.ro 53 ls))], []⟩) : FunSem Try.prog 29 [] [.c (.ro 53 ls), .c (.ro 53 ls)] [] (bv true) :=
  FC.sem (C := c_eqPoints ls) (m := 25) Try.func29 (by kernel_rfl) rfl rfl (by kernel_rfl) rfl rfl h
theorem eqPoints_l (ls : List (List DV)) (hS : Shp Try.prog 53 ls) (hl : ls.length ≤ 1048576) : ∀ (m : Nat) (i : Int), m = (ls.length - i).toNat → 0 ≤ i → i ≤ ls.length →
    (c_eqPoints ls).At [1, 1, 0, 1, 0] ⟨mkS 27 [(0, .c (.ro 53 ls)), (1, .c (.ro 53 ls)), (5, iv i)], []⟩ := by
  intro m
  induction m using Nat.strongRecOn with
  | _ m ih =>
    intro i hm h0 hn
    refine FC.loopB (by kernel_rfl) (by kernel_rfl) 100 (X := brP (decide (i < (↑(List.length ls) : Int))) ((0 : Int) ≤ i ∧ El Try.prog (53 : Nat) ls (Int.toNat i) ∧ (0 : Int) ≤ i ∧ El Try.prog (53 : Nat) ls (Int.toNat i) ∧ cS ls (Int.toNat i) (0 : Nat) = cS ls (Int.toNat i) (0 : Nat) ∧ cI ls (Int.toNat i) (1 : Nat) = cI ls (Int.toNat i) (1 : Nat) ∧ cI ls (Int.toNat i) (2 : Nat) = cI ls (Int.toNat i) (2 : Nat) ∧ IntKind.wrap IntKind.i64 (i + (1 : Int)) = i + (1 : Int) ∧ FC.At (c_eqPoints ls) [(1 : Nat), (1 : Nat), (0 : Nat), (1 : Nat), (0 : Nat)] { sl := mkS (27 : Nat) [((0 : Nat), AV.c (CV.ro (53 : Nat) ls)), ((1 : Nat), AV.c (CV.ro (53 : Nat) ls)), ((5 : Nat), AV.c (CV.v (Value.int IntKind.i64 (i + (1 : Int)))))], hp := [] }) (FC.Fin (c_eqPoints ls) (AV.c (CV.v (Value.bool true))) [])) (by kernel_rfl) ?_
    repeat' (first | (with_reducible refine And.intro ?_ ?_) | refine brN ?_ | refine brD (fun _ => ?_) (fun _ => ?_) | refine brE (fun _ => ?_) (fun _ => ?_) | refine brEn (fun _ => ?_) (fun _ => ?_) | refine brEb (fun _ => ?_) (fun _ => ?_) | refine brS (fun _ => ?_) (fun _ => ?_) | refine brI (fun _ => ?_) (fun _ => ?_) | omega | exact wrI (by omega) (by omega) | rfl | exact hS.el (by omega) | exact finV rfl rfl | exact ih _ (by omega) (i + 1) rfl (by omega) (by omega) | fail)
theorem eqPoints_sem (ls : List (List DV)) (hS : Shp Try.prog 53 ls) (hl : ls.length ≤ 1048576) : FunSem Try.prog 29 [] [.c (.ro 53 ls), .c (.ro 53 ls)] [] (bv true) := by
  refine eqPoints_of ls ?_
  refine FC.ev (by kernel_rfl) 100 (X := brP ((↑(List.length ls) : Int) != (↑(List.length ls) : Int)) (FC.Fin (c_eqPoints ls) (AV.c (CV.v (Value.bool false))) []) (FC.At (c_eqPoints ls) [(1 : Nat), (1 : Nat), (0 : Nat), (1 : Nat), (0 : Nat)] { sl := mkS (27 : Nat) [((0 : Nat), AV.c (CV.ro (53 : Nat) ls)), ((1 : Nat), AV.c (CV.ro (53 : Nat) ls)), ((5 : Nat), AV.c (CV.v (Value.int IntKind.i64 (0 : Int))))], hp := [] })) (by kernel_rfl) ?_
  repeat' (first | (with_reducible refine And.intro ?_ ?_) | refine brN ?_ | refine brD (fun _ => ?_) (fun _ => ?_) | refine brE (fun _ => ?_) (fun _ => ?_) | refine brEn (fun _ => ?_) (fun _ => ?_) | refine brEb (fun _ => ?_) (fun _ => ?_) | refine brS (fun _ => ?_) (fun _ => ?_) | refine brI (fun _ => ?_) (fun _ => ?_) | omega | exact wrI (by omega) (by omega) | exact absurd rfl ‹_› | exact eqPoints_l ls hS hl _ 0 rfl (by omega) (by omega) | fail)
noncomputable def e_eqPoints : CE Try.prog := CE.pure 29 [.c (.l 53), .c (.l 53)] (fun
  | [.c (.ro 53 ls), .c (.ro 53 ms)] => some ([ls = ms, Shp Try.prog 53 ls, ls.length ≤ 1048576], bv true, [])
  | _ => none) (by
  intro ys q v hp1 h hq
  split at h <;> cases h
  exact (by have e := hq; simp only [andL] at e; obtain ⟨rfl, h1, h2, -⟩ := e; exact eqPoints_sem _ h1 h2))
end Go.Proofs.Ytekdfddodabfcaa
/- Contracts: the laws' functions over a base; the law FnExactPlanBaseOk. -/
namespace Go.Proofs.Ytekdfddodabfcaa
open Go.RowKit
set_option linter.unusedVariables false
set_option linter.unusedSimpArgs false
theorem Shp.conv {P : Program} {e e' : Nat} {ls : List (List DV)} (h : Shp P e ls) (he : shapeT P e' = shapeT P e := by kernel_rfl) : Shp P e' ls := fun cs hc => by rw [he]; exact h cs hc
theorem szS_le {js : List Nat} {ls : List (List DV)} {l : Int} (h : ¬ szS js ls l < 0) : szS js ls l ≤ l := (szS_ok (by omega)).1
def szB (ks ps : List (List DV)) (l : Int) : Int := if szS [0] ks l < 0 then -1 else if szS [0] ps (szS [0] ks l) < 0 then -1 else szS [0] ps (szS [0] ks l)
structure BaseB (P : Program) (a b : Nat) (ks ps : List (List DV)) : Prop where
  sk : Shp P a ks
  sp : Shp P b ps
  bk : StrB [0] ks
  bp : StrB [0] ps
  lk : ks.length ≤ 9223372036854775807
  lp : ps.length ≤ 9223372036854775807
noncomputable def c_szBase (ks ps : List (List DV)) (left : Int) : FC := mkC Try.prog Try.f5 [0, 1, 2, 4] [0, 1, 2, 4, 10, 16] [] [e_szKinds, e_szPoints] 0 [] (iv (szB ks ps left))
theorem szBase_of (ks ps : List (List DV)) (left : Int) (h : (c_szBase ks ps left).At [] ⟨mkS 18 [(0, .ag [.ro 72 ks, .ro 74 ps]), (1, iv left)], []⟩) : FunSem Try.prog 5 [] [.ag [.ro 72 ks, .ro 74 ps], iv left] [] (iv (szB ks ps left)) :=
  FC.sem (C := c_szBase ks ps left) (m := 16) Try.func5 (by kernel_rfl) rfl rfl (by kernel_rfl) rfl rfl h
theorem szBase_sem (ks ps : List (List DV)) (left : Int) (h : BaseB Try.prog 72 74 ks ps) (h0 : 0 ≤ left) (h1 : left ≤ 1048576) : FunSem Try.prog 5 [] [.ag [.ro 72 ks, .ro 74 ps], iv left] [] (iv (szB ks ps left)) := by
  obtain ⟨a1, a2, a3, a4, a5, a6⟩ := h
  refine szBase_of ks ps left ?_
  refine FC.ev (by kernel_rfl) 100 (X := Shp Try.prog (72 : Nat) ks ∧ StrB [(0 : Nat)] ks ∧ List.length ks ≤ (9223372036854775807 : Nat) ∧ (0 : Int) ≤ left ∧ left ≤ (1048576 : Int) ∧ brP (decide (szS [(0 : Nat)] ks left < (0 : Int))) (FC.Fin (c_szBase ks ps left) (AV.c (CV.v (Value.int IntKind.i64 (-1 : Int)))) []) (Shp Try.prog (74 : Nat) ps ∧ StrB [(0 : Nat)] ps ∧ List.length ps ≤ (9223372036854775807 : Nat) ∧ (0 : Int) ≤ szS [(0 : Nat)] ks left ∧ szS [(0 : Nat)] ks left ≤ (1048576 : Int) ∧ brP (decide (szS [(0 : Nat)] ps (szS [(0 : Nat)] ks left) < (0 : Int))) (FC.Fin (c_szBase ks ps left) (AV.c (CV.v (Value.int IntKind.i64 (-1 : Int)))) []) (FC.Fin (c_szBase ks ps left) (AV.c (CV.v (Value.int IntKind.i64 (szS [(0 : Nat)] ps (szS [(0 : Nat)] ks left))))) []))) (by kernel_rfl) ?_
  have e1 := @szS_le [0] ks left
  have e2 := @szS_le [0] ps (szS [0] ks left)
  repeat' (first | (with_reducible refine And.intro ?_ ?_) | refine brN ?_ | refine brD (fun _ => ?_) (fun _ => ?_) | refine brE (fun _ => ?_) (fun _ => ?_) | refine brEn (fun _ => ?_) (fun _ => ?_) | refine brEb (fun _ => ?_) (fun _ => ?_) | refine brS (fun _ => ?_) (fun _ => ?_) | refine brI (fun _ => ?_) (fun _ => ?_) | omega | exact wrI (by omega) (by omega) | exact a1 | exact a2 | exact a3 | exact a4 | exact a5 | exact a6 | (have := e1 ‹_›; omega) | refine finV (iv_eq ?_) rfl | fail)
  all_goals unfold szB
  all_goals (repeat' split)
  all_goals first | rfl | contradiction
noncomputable def e_szBase : CE Try.prog := CE.pure 5 [.ag [.l 72, .l 74], .c .x] (fun
  | [.ag [.ro 72 ks, .ro 74 ps], .c (.v (.int .i64 left))] => some ([BaseB Try.prog 72 74 ks ps, 0 ≤ left, left ≤ 1048576], iv (szB ks ps left), [])
  | _ => none) (by
  intro ys q v hp1 h hq
  split at h <;> cases h
  exact szBase_sem _ _ _ hq.1 hq.2.1 hq.2.2.1)
noncomputable def c_toBase (ks ps : List (List DV)) : FC := mkC Try.prog Try.f7 [0, 1, 2, 3] [0, 1, 2, 3] [] [e_toKinds, e_toPoints] 0 [some (.row true 50 ks), some (.row true 53 ps)] (.ag [.sl 0 ks.length, .sl 1 ps.length])
theorem toBase_of (ks ps : List (List DV)) (h : (c_toBase ks ps).At [] ⟨mkS 13 [(0, .ag [.ro 72 ks, .ro 74 ps])], []⟩) : FunSem Try.prog 7 [] [.ag [.ro 72 ks, .ro 74 ps]] [some (.row true 50 ks), some (.row true 53 ps)] (.ag [.sl 0 ks.length, .sl 1 ps.length]) :=
  FC.sem (C := c_toBase ks ps) (m := 12) Try.func7 (by kernel_rfl) rfl rfl (by kernel_rfl) rfl rfl h
theorem toBase_sem (ks ps : List (List DV)) (h1 : Shp Try.prog 72 ks) (h2 : Shp Try.prog 74 ps) (h3 : ks.length ≤ 1048576) (h4 : ps.length ≤ 1048576) : FunSem Try.prog 7 [] [.ag [.ro 72 ks, .ro 74 ps]] [some (.row true 50 ks), some (.row true 53 ps)] (.ag [.sl 0 ks.length, .sl 1 ps.length]) := by
  refine toBase_of ks ps ?_
  refine FC.ev (by kernel_rfl) 100 (X := Shp Try.prog (72 : Nat) ks ∧ List.length ks ≤ (1048576 : Nat) ∧ Shp Try.prog (74 : Nat) ps ∧ List.length ps ≤ (1048576 : Nat) ∧ FC.Fin (c_toBase ks ps) (AV.ag [CV.sl (0 : Nat) (List.length ks), CV.sl (1 : Nat) (List.length ps)]) [some (AB.row true (50 : Nat) ks), some (AB.row true (53 : Nat) ps)]) (by kernel_rfl) ?_
  repeat' (first | (with_reducible refine And.intro ?_ ?_) | refine brN ?_ | refine brD (fun _ => ?_) (fun _ => ?_) | refine brE (fun _ => ?_) (fun _ => ?_) | refine brEn (fun _ => ?_) (fun _ => ?_) | refine brEb (fun _ => ?_) (fun _ => ?_) | refine brS (fun _ => ?_) (fun _ => ?_) | refine brI (fun _ => ?_) (fun _ => ?_) | omega | exact wrI (by omega) (by omega) | exact h1 | exact h2 | exact finV rfl rfl | fail)
noncomputable def e_toBase : CE Try.prog := CE.pure 7 [.ag [.l 72, .l 74]] (fun
  | [.ag [.ro 72 ks, .ro 74 ps]] => some ([Shp Try.prog 72 ks, Shp Try.prog 74 ps, ks.length ≤ 1048576, ps.length ≤ 1048576], .ag [.sl 0 ks.length, .sl 1 ps.length], [some (.row true 50 ks), some (.row true 53 ps)])
  | _ => none) (by
  intro ys q v hp1 h hq
  split at h <;> cases h
  exact toBase_sem _ _ hq.1 hq.2.1 hq.2.2.1 hq.2.2.2.1)
noncomputable def c_eqBase (ks ps : List (List DV)) : FC := mkC Try.prog Try.f9 [0, 1, 2, 3, 4] [0, 1, 2, 3, 4, 10, 16] [] [e_eqKinds, e_eqPoints] 0 [] (bv true)
theorem eqBase_of (ks ps : List (List DV)) (h : (c_eqBase ks ps).At [] ⟨mkS 17 [(0, .ag [.ro 50 ks, .ro 53 ps]), (1, .ag [.ro 50 ks, .ro 53 ps])], []⟩) : FunSem Try.prog 9 [] [.ag [.ro 50 ks, .ro 53 ps], .ag [.ro 50 ks, .ro 53 ps]] [] (bv true) :=
  FC.sem (C := c_eqBase ks ps) (m := 15) Try.func9 (by kernel_rfl) rfl rfl (by kernel_rfl) rfl rfl h
theorem eqBase_sem (ks ps : List (List DV)) (h1 : Shp Try.prog 50 ks) (h2 : Shp Try.prog 53 ps) (h3 : ks.length ≤ 1048576) (h4 : ps.length ≤ 1048576) : FunSem Try.prog 9 [] [.ag [.ro 50 ks, .ro 53 ps], .ag [.ro 50 ks, .ro 53 ps]] [] (bv true) := by
  refine eqBase_of ks ps ?_
  refine FC.ev (by kernel_rfl) 100 (X := ks = ks ∧ Shp Try.prog (50 : Nat) ks ∧ List.length ks ≤ (1048576 : Nat) ∧ ps = ps ∧ Shp Try.prog (53 : Nat) ps ∧ List.length ps ≤ (1048576 : Nat) ∧ FC.Fin (c_eqBase ks ps) (AV.c (CV.v (Value.bool true))) []) (by kernel_rfl) ?_
  repeat' (first | (with_reducible refine And.intro ?_ ?_) | refine brN ?_ | refine brD (fun _ => ?_) (fun _ => ?_) | refine brE (fun _ => ?_) (fun _ => ?_) | refine brEn (fun _ => ?_) (fun _ => ?_) | refine brEb (fun _ => ?_) (fun _ => ?_) | refine brS (fun _ => ?_) (fun _ => ?_) | refine brI (fun _ => ?_) (fun _ => ?_) | omega | exact wrI (by omega) (by omega) | exact h1 | exact h2 | rfl | exact finV rfl rfl | fail)
noncomputable def e_eqBase : CE Try.prog := CE.pure 9 [.ag [.l 50, .l 53], .ag [.l 50, .l 53]] (fun
  | [.ag [.ro 50 ks, .ro 53 ps], .ag [.ro 50 ks', .ro 53 ps']] => some ([ks = ks', ps = ps', Shp Try.prog 50 ks, Shp Try.prog 53 ps, ks.length ≤ 1048576, ps.length ≤ 1048576], bv true, [])
  | _ => none) (by
  intro ys q v hp1 h hq
  split at h <;> cases h
  exact (by have e := hq; simp only [andL] at e; obtain ⟨rfl, rfl, h1, h2, h3, h4, -⟩ := e; exact eqBase_sem _ _ h1 h2 h3 h4))
noncomputable def c_lawB (ks ps : List (List DV)) : FC := mkC Try.prog Try.f3 [0, 1, 2, 3, 4, 5, 6] [0, 1, 2, 3, 4, 5, 6, 11, 21, 26] [] [e_szBase, e_toBase, e_bo1, e_bo2, e_eqBase] 0 [] (bv true)
theorem lawB_of (ks ps : List (List DV)) (h : (c_lawB ks ps).At [] ⟨mkS 27 [(0, .ag [.ro 72 ks, .ro 74 ps])], []⟩) : FunSem Try.prog 3 [] [.ag [.ro 72 ks, .ro 74 ps]] [] (bv true) :=
  FC.sem (C := c_lawB ks ps) (m := 26) Try.func3 (by kernel_rfl) rfl rfl (by kernel_rfl) rfl rfl h
theorem szB_ok {ks ps : List (List DV)} {l : Int} (h : ¬ szB ks ps l < 0) : (ks.length : Int) ≤ l ∧ (ps.length : Int) ≤ l := by
  unfold szB at h
  split at h
  · omega
  · split at h
    · omega
    · rename_i h1 h2
      have a := szS_ok (js := [0]) (ls := ks) (l := l) (by omega)
      have b := szS_ok (js := [0]) (ls := ps) (l := szS [0] ks l) (by omega)
      omega
theorem lawB_sem (ks ps : List (List DV)) (h : BaseB Try.prog 72 74 ks ps) : FunSem Try.prog 3 [] [.ag [.ro 72 ks, .ro 74 ps]] [] (bv true) := by
  refine lawB_of ks ps ?_
  refine FC.ev (by kernel_rfl) 100 (X := BaseB Try.prog (72 : Nat) (74 : Nat) ks ps ∧ (0 : Int) ≤ (1048576 : Int) ∧ (1048576 : Int) ≤ (1048576 : Int) ∧ brP (decide (szB ks ps (1048576 : Int) < (0 : Int))) (FC.Fin (c_lawB ks ps) (AV.c (CV.v (Value.bool true))) []) (Shp Try.prog (72 : Nat) ks ∧ Shp Try.prog (74 : Nat) ps ∧ List.length ks ≤ (1048576 : Nat) ∧ List.length ps ≤ (1048576 : Nat) ∧ List.length ks = List.length ks ∧ List.length ps = List.length ps ∧ Shp Try.prog (50 : Nat) ks ∧ Shp Try.prog (53 : Nat) ps ∧ Shp Try.prog (72 : Nat) ks ∧ Shp Try.prog (74 : Nat) ps ∧ List.length ks ≤ (1048576 : Nat) ∧ List.length ps ≤ (1048576 : Nat) ∧ List.length ks = List.length ks ∧ List.length ps = List.length ps ∧ Shp Try.prog (50 : Nat) ks ∧ Shp Try.prog (53 : Nat) ps ∧ brP (!baseB ks ps == baseB ks ps) (FC.Fin (c_lawB ks ps) (AV.c (CV.v (Value.bool false))) []) (Shp Try.prog (72 : Nat) ks ∧ Shp Try.prog (74 : Nat) ps ∧ List.length ks ≤ (1048576 : Nat) ∧ List.length ps ≤ (1048576 : Nat) ∧ List.length ks = List.length ks ∧ List.length ps = List.length ps ∧ List.length ks = List.length ks ∧ List.length ps = List.length ps ∧ ks = ks ∧ ps = ps ∧ Shp Try.prog (50 : Nat) ks ∧ Shp Try.prog (53 : Nat) ps ∧ List.length ks ≤ (1048576 : Nat) ∧ List.length ps ≤ (1048576 : Nat) ∧ FC.Fin (c_lawB ks ps) (AV.c (CV.v (Value.bool true))) []))) (by kernel_rfl) ?_
  have e1 := @szB_ok ks ps 1048576
  have b1 := h.sk
  have b2 := h.sp
  have b3 : Shp Try.prog 50 ks := b1.conv
  have b4 : Shp Try.prog 53 ps := b2.conv
  repeat' (first | (with_reducible refine And.intro ?_ ?_) | refine brN ?_ | refine brD (fun _ => ?_) (fun _ => ?_) | refine brE (fun _ => ?_) (fun _ => ?_) | refine brEn (fun _ => ?_) (fun _ => ?_) | refine brEb (fun _ => ?_) (fun _ => ?_) | refine brS (fun _ => ?_) (fun _ => ?_) | refine brI (fun _ => ?_) (fun _ => ?_) | omega | exact wrI (by omega) (by omega) | exact h | (have := e1 ‹_›; omega) | exact b1 | exact b2 | exact b3 | exact b4 | rfl | exact finV rfl rfl | exact absurd rfl ‹_› | fail)
end Go.Proofs.Ytekdfddodabfcaa
/- Contracts: the laws' own small functions over strings and cells; marks. -/
namespace Go.Proofs.Ytekdfddodabfcaa
open Go.RowKit
set_option linter.unusedVariables false
set_option linter.unusedSectionVars false
set_option linter.unusedSimpArgs false
noncomputable def c_szStrs (ls : List (List DV)) (left : Int) : FC := mkC Try.prog Try.f10 [0, 1, 4, 5] [0, 1, 4, 5, 11, 15, 26] [([1, 1, 1, 0, 1, 0], [0, 1, 5])] [] 0 [] (iv (szS [0] ls left))
theorem szStrs_of (ls : List (List DV)) (left : Int) (h : (c_szStrs ls left).At [] ⟨mkS 28 [(0, .c (.ro 9 ls)), (1, iv left)], []⟩) : FunSem Try.prog 10 [] [.c (.ro 9 ls), iv left] [] (iv (szS [0] ls left)) :=
  FC.sem (C := c_szStrs ls left) (m := 26) Try.func10 (by kernel_rfl) rfl rfl (by kernel_rfl) rfl rfl h
theorem szStrs_l (ls : List (List DV)) (left : Int) (hS : Shp Try.prog 9 ls) (hB : StrB [0] ls) (hl : ls.length ≤ 1048576) (hr0 : szS [0] ls left = szRows [0] ls (left - ls.length)) : ∀ (m : Nat) (l i : Int), m = (ls.length - i).toNat → 0 ≤ i → i ≤ ls.length → 0 ≤ l → l ≤ 1048576 → szRows [0] (ls.drop i.toNat) l = szS [0] ls left →
    (c_szStrs ls left).At [1, 1, 1, 0, 1, 0] ⟨mkS 28 [(0, .c (.ro 9 ls)), (1, iv l), (5, iv i)], []⟩ := by
  intro m
  induction m using Nat.strongRecOn with
  | _ m ih =>
    intro l i hm h0 hn hl0 hl1 hr
    refine FC.loopB (by kernel_rfl) (by kernel_rfl) 100 (X := brP (decide (i < (↑(List.length ls) : Int))) ((0 : Int) ≤ i ∧ El Try.prog (9 : Nat) ls (Int.toNat i) ∧ IntKind.wrap IntKind.i64 (l - (↑(ByteArray.size (cS ls (Int.toNat i) (0 : Nat))) : Int)) = l - (↑(ByteArray.size (cS ls (Int.toNat i) (0 : Nat))) : Int) ∧ brP (decide (l - (↑(ByteArray.size (cS ls (Int.toNat i) (0 : Nat))) : Int) < (0 : Int))) (FC.Fin (c_szStrs ls left) (AV.c (CV.v (Value.int IntKind.i64 (-1 : Int)))) []) (IntKind.wrap IntKind.i64 (i + (1 : Int)) = i + (1 : Int) ∧ FC.At (c_szStrs ls left) [(1 : Nat), (1 : Nat), (1 : Nat), (0 : Nat), (1 : Nat), (0 : Nat)] { sl := mkS (28 : Nat) [((0 : Nat), AV.c (CV.ro (9 : Nat) ls)), ((1 : Nat), AV.c (CV.v (Value.int IntKind.i64 (l - (↑(ByteArray.size (cS ls (Int.toNat i) (0 : Nat))) : Int))))), ((5 : Nat), AV.c (CV.v (Value.int IntKind.i64 (i + (1 : Int)))))], hp := [] })) (FC.Fin (c_szStrs ls left) (AV.c (CV.v (Value.int IntKind.i64 l))) [])) (by kernel_rfl) ?_
    have hstep : i < ls.length → szRows [0] (ls.drop i.toNat) l = if szN [(cS ls i.toNat 0).size] l < 0 then -1 else szRows [0] (ls.drop (i + 1).toNat) (szN [(cS ls i.toNat 0).size] l) := fun h => by
      rw [show (i + 1).toNat = i.toNat + 1 by omega]; exact szRows_drop [0] (by omega) l
    have hb : i < ls.length → (cS ls i.toNat 0).size ≤ 9223372036854775807 := fun h => hB i.toNat (by omega) 0 (by simp)
    have z1 : l - (cS ls i.toNat 0).size < 0 → szN [(cS ls i.toNat 0).size] l = -1 := fun h => by simp only [szN]; rw [if_pos h]
    have z2 : ¬ l - (cS ls i.toNat 0).size < 0 → szN [(cS ls i.toNat 0).size] l = l - (cS ls i.toNat 0).size := fun h => by simp only [szN]; rw [if_neg h]
    have f1 : i < ls.length → l - (cS ls i.toNat 0).size < 0 → szS [0] ls left = -1 := fun h h' => by rw [← hr, hstep h, z1 h', if_pos (by omega)]
    have f2 : i < ls.length → ¬ l - (cS ls i.toNat 0).size < 0 → szRows [0] (ls.drop (i + 1).toNat) (l - (cS ls i.toNat 0).size) = szS [0] ls left := fun h h' => by rw [← hr, hstep h, z2 h', if_neg h']
    repeat' (first | (with_reducible refine And.intro ?_ ?_) | refine brN ?_ | refine brD (fun _ => ?_) (fun _ => ?_) | refine brE (fun _ => ?_) (fun _ => ?_) | refine brEn (fun _ => ?_) (fun _ => ?_) | refine brEb (fun _ => ?_) (fun _ => ?_) | refine brS (fun _ => ?_) (fun _ => ?_) | refine brI (fun _ => ?_) (fun _ => ?_) | omega | exact wrI (by omega) (by omega) | exact hS.el (by omega) | exact wrI (by have := hb ‹_›; omega) (by omega) | exact finV (iv_eq (f1 ‹_› ‹_›).symm) rfl | exact ih _ (by omega) _ (i + 1) rfl (by omega) (by omega) (by omega) (by omega) (f2 ‹_› ‹_›) | fail)
    refine finV (iv_eq ?_) rfl
    rw [← hr, List.drop_eq_nil_of_le (by omega)]; rfl
theorem szStrs_sem (ls : List (List DV)) (left : Int) (hS : Shp Try.prog 9 ls) (hB : StrB [0] ls) (hl : ls.length ≤ 9223372036854775807) (h0 : 0 ≤ left) (h1 : left ≤ 1048576) : FunSem Try.prog 10 [] [.c (.ro 9 ls), iv left] [] (iv (szS [0] ls left)) := by
  refine szStrs_of ls left ?_
  refine FC.ev (by kernel_rfl) 100 (X := IntKind.wrap IntKind.i64 (left - (↑(List.length ls) : Int)) = left - (↑(List.length ls) : Int) ∧ brP (decide (left - (↑(List.length ls) : Int) < (0 : Int))) (FC.Fin (c_szStrs ls left) (AV.c (CV.v (Value.int IntKind.i64 (-1 : Int)))) []) (FC.At (c_szStrs ls left) [(1 : Nat), (1 : Nat), (1 : Nat), (0 : Nat), (1 : Nat), (0 : Nat)] { sl := mkS (28 : Nat) [((0 : Nat), AV.c (CV.ro (9 : Nat) ls)), ((1 : Nat), AV.c (CV.v (Value.int IntKind.i64 (left - (↑(List.length ls) : Int))))), ((5 : Nat), AV.c (CV.v (Value.int IntKind.i64 (0 : Int))))], hp := [] })) (by kernel_rfl) ?_
  repeat' (first | (with_reducible refine And.intro ?_ ?_) | refine brN ?_ | refine brD (fun _ => ?_) (fun _ => ?_) | refine brE (fun _ => ?_) (fun _ => ?_) | refine brEn (fun _ => ?_) (fun _ => ?_) | refine brEb (fun _ => ?_) (fun _ => ?_) | refine brS (fun _ => ?_) (fun _ => ?_) | refine brI (fun _ => ?_) (fun _ => ?_) | omega | exact wrI (by omega) (by omega) | fail)
  · exact finV (iv_eq (by unfold szS; rw [if_pos ‹_›])) rfl
  · have e : szS [0] ls left = szRows [0] ls (left - ls.length) := by unfold szS; rw [if_neg ‹_›]
    exact szStrs_l ls left hS hB (by omega) e _ _ 0 rfl (by omega) (by omega) (by omega) (by omega) (by rw [e]; rfl)
noncomputable def e_szStrs : CE Try.prog := CE.pure 10 [.c (.l 9), .c .x] (fun
  | [.c (.ro 9 ls), .c (.v (.int .i64 left))] => some ([Shp Try.prog 9 ls, StrB [0] ls, ls.length ≤ 9223372036854775807, 0 ≤ left, left ≤ 1048576], iv (szS [0] ls left), [])
  | _ => none) (by
  intro ys q v hp1 h hq
  split at h <;> cases h
  exact szStrs_sem _ _ hq.1 hq.2.1 hq.2.2.1 hq.2.2.2.1 hq.2.2.2.2.1)
noncomputable def c_toStrs (ls : List (List DV)) : FC := mkC Try.prog Try.f12 [0, 2, 3, 4] [0, 2, 3, 4, 11] [([1, 1, 0, 1, 0], [0, 3, 4])] [] 0 [some (.row true 9 ls)] (.c (.sl 0 ls.length))
theorem toStrs_of (ls : List (List DV)) (h : (c_toStrs ls).At [] ⟨mkS 22 [(0, .c (.ro 9 ls))], []⟩) : FunSem Try.prog 12 [] [.c (.ro 9 ls)] [some (.row true 9 ls)] (.c (.sl 0 ls.length)) :=
  FC.sem (C := c_toStrs ls) (m := 21) Try.func12 (by kernel_rfl) rfl rfl (by kernel_rfl) rfl rfl h
theorem toStrs_l (ls : List (List DV)) (hS : Shp Try.prog 9 ls) (hl : ls.length ≤ 1048576) : ∀ (m : Nat) (i : Int) (ms : List (List DV)) (n : Nat), m = (ls.length - i).toNat → 0 ≤ i → i ≤ ls.length → n = ms.length → ms.length = ls.length → Shp Try.prog 9 ms → (∀ j, j < i.toNat → ms[j]? = ls[j]?) →
    (c_toStrs ls).At [1, 1, 0, 1, 0] ⟨mkS 22 [(0, .c (.ro 9 ls)), (3, .c (.sl 0 n)), (4, iv i)], [some (.row true 9 ms)]⟩ := by
  intro m
  induction m using Nat.strongRecOn with
  | _ m ih =>
    intro i ms n hm h0 hn hn2 hlen hS2 hms
    refine FC.loopB (by kernel_rfl) (by kernel_rfl) 100 (X := brP (decide (i < (↑(List.length ls) : Int))) ((0 : Int) ≤ i ∧ El Try.prog (9 : Nat) ls (Int.toNat i) ∧ (0 : Int) ≤ i ∧ (n = List.length ms ∧ Int.toNat i < n) ∧ El Try.prog (9 : Nat) ms (Int.toNat i) ∧ IntKind.wrap IntKind.i64 (i + (1 : Int)) = i + (1 : Int) ∧ FC.At (c_toStrs ls) [(1 : Nat), (1 : Nat), (0 : Nat), (1 : Nat), (0 : Nat)] { sl := mkS (22 : Nat) [((0 : Nat), AV.c (CV.ro (9 : Nat) ls)), ((3 : Nat), AV.c (CV.sl (0 : Nat) n)), ((4 : Nat), AV.c (CV.v (Value.int IntKind.i64 (i + (1 : Int)))))], hp := [some (AB.row true (9 : Nat) (List.set ms (Int.toNat i) [DV.s (Value.string (cS ls (Int.toNat i) (0 : Nat)))]))] }) (FC.Fin (c_toStrs ls) (AV.c (CV.sl (0 : Nat) n)) [some (AB.row true (9 : Nat) ms)])) (by kernel_rfl) ?_
    repeat' (first | (with_reducible refine And.intro ?_ ?_) | refine brN ?_ | refine brD (fun _ => ?_) (fun _ => ?_) | refine brE (fun _ => ?_) (fun _ => ?_) | refine brEn (fun _ => ?_) (fun _ => ?_) | refine brEb (fun _ => ?_) (fun _ => ?_) | refine brS (fun _ => ?_) (fun _ => ?_) | refine brI (fun _ => ?_) (fun _ => ?_) | omega | exact wrI (by omega) (by omega) | exact hS.el (by omega) | exact hS2.el (by omega) | fail)
    · refine ih _ (by omega) (i + 1) _ _ rfl (by omega) (by omega) (by simp; omega) (by simp; omega) (hS2.set (by kernel_rfl)) (fun j hj => ?_)
      exact set_step hlen hms (by omega) (by omega) (hS.el (by omega))
    · have : ms = ls := List.ext_getElem? fun j => by
        by_cases hj : j < i.toNat
        · exact hms j hj
        · rw [List.getElem?_eq_none (by omega), List.getElem?_eq_none (by omega)]
      subst this; subst hn2; exact finV rfl rfl
theorem toStrs_sem (ls : List (List DV)) (hS : Shp Try.prog 9 ls) (hl : ls.length ≤ 1048576) : FunSem Try.prog 12 [] [.c (.ro 9 ls)] [some (.row true 9 ls)] (.c (.sl 0 ls.length)) := by
  refine toStrs_of ls ?_
  refine FC.ev (by kernel_rfl) 100 (X := ((0 : Int) ≤ (↑(List.length ls) : Int) ∧ (↑(List.length ls) : Int) ≤ (↑(List.length ls) : Int) ∧ (↑(List.length ls) : Int) ≤ (140737488355328 : Int) ∧ (↑(List.length ls) : Int) * (↑(16 : Nat) : Int) ≤ (281474976710656 : Int)) ∧ FC.At (c_toStrs ls) [(1 : Nat), (1 : Nat), (0 : Nat), (1 : Nat), (0 : Nat)] { sl := mkS (22 : Nat) [((0 : Nat), AV.c (CV.ro (9 : Nat) ls)), ((3 : Nat), AV.c (CV.sl (0 : Nat) (List.length (List.replicate (Int.toNat (↑(List.length ls) : Int)) [DV.s (Value.string { data := #[] })])))), ((4 : Nat), AV.c (CV.v (Value.int IntKind.i64 (0 : Int))))], hp := [some (AB.row true (9 : Nat) (List.replicate (Int.toNat (↑(List.length ls) : Int)) [DV.s (Value.string { data := #[] })]))] }) (by kernel_rfl) ?_
  repeat' (first | (with_reducible refine And.intro ?_ ?_) | refine brN ?_ | refine brD (fun _ => ?_) (fun _ => ?_) | refine brE (fun _ => ?_) (fun _ => ?_) | refine brEn (fun _ => ?_) (fun _ => ?_) | refine brEb (fun _ => ?_) (fun _ => ?_) | refine brS (fun _ => ?_) (fun _ => ?_) | refine brI (fun _ => ?_) (fun _ => ?_) | omega | exact wrI (by omega) (by omega) | fail)
  exact toStrs_l ls hS hl _ 0 _ _ rfl (by omega) (by omega) rfl (by simp) (Shp.replicate (by kernel_rfl)) (fun j hj => by omega)
noncomputable def e_toStrs : CE Try.prog := CE.pure 12 [.c (.l 9)] (fun
  | [.c (.ro 9 ls)] => some ([Shp Try.prog 9 ls, ls.length ≤ 1048576], .c (.sl 0 ls.length), [some (.row true 9 ls)])
  | _ => none) (by
  intro ys q v hp1 h hq
  split at h <;> cases h
  exact toStrs_sem _ hq.1 hq.2.1)
noncomputable def c_eqStrs (ls : List (List DV)) : FC := mkC Try.prog Try.f15 [0, 1, 4, 5] [0, 1, 4, 5, 10, 14, 25] [([1, 1, 0, 1, 0], [0, 1, 5])] [] 0 [] (bv true)
theorem eqStrs_of (ls : List (List DV)) (h : (c_eqStrs ls).At [] ⟨mkS 26 [(0, .c (.ro 9 ls)), (1, .c (.ro 9 ls))], []⟩) : FunSem Try.prog 15 [] [.c (.ro 9 ls), .c (.ro 9 ls)] [] (bv true) :=
  FC.sem (C := c_eqStrs ls) (m := 24) Try.func15 (by kernel_rfl) rfl rfl (by kernel_rfl) rfl rfl h
theorem eqStrs_l (ls : List (List DV)) (hS : Shp Try.prog 9 ls) (hl : ls.length ≤ 1048576) : ∀ (m : Nat) (i : Int), m = (ls.length - i).toNat → 0 ≤ i → i ≤ ls.length →
    (c_eqStrs ls).At [1, 1, 0, 1, 0] ⟨mkS 26 [(0, .c (.ro 9 ls)), (1, .c (.ro 9 ls)), (5, iv i)], []⟩ := by
  intro m
  induction m using Nat.strongRecOn with
  | _ m ih =>
    intro i hm h0 hn
    refine FC.loopB (by kernel_rfl) (by kernel_rfl) 100 (X := brP (decide (i < (↑(List.length ls) : Int))) ((0 : Int) ≤ i ∧ El Try.prog (9 : Nat) ls (Int.toNat i) ∧ (0 : Int) ≤ i ∧ El Try.prog (9 : Nat) ls (Int.toNat i) ∧ brP (!ByteArray.toList (cS ls (Int.toNat i) (0 : Nat)) == ByteArray.toList (cS ls (Int.toNat i) (0 : Nat))) (FC.Fin (c_eqStrs ls) (AV.c (CV.v (Value.bool false))) []) (IntKind.wrap IntKind.i64 (i + (1 : Int)) = i + (1 : Int) ∧ FC.At (c_eqStrs ls) [(1 : Nat), (1 : Nat), (0 : Nat), (1 : Nat), (0 : Nat)] { sl := mkS (26 : Nat) [((0 : Nat), AV.c (CV.ro (9 : Nat) ls)), ((1 : Nat), AV.c (CV.ro (9 : Nat) ls)), ((5 : Nat), AV.c (CV.v (Value.int IntKind.i64 (i + (1 : Int)))))], hp := [] })) (FC.Fin (c_eqStrs ls) (AV.c (CV.v (Value.bool true))) [])) (by kernel_rfl) ?_
    repeat' (first | (with_reducible refine And.intro ?_ ?_) | refine brN ?_ | refine brD (fun _ => ?_) (fun _ => ?_) | refine brE (fun _ => ?_) (fun _ => ?_) | refine brEn (fun _ => ?_) (fun _ => ?_) | refine brEb (fun _ => ?_) (fun _ => ?_) | refine brS (fun _ => ?_) (fun _ => ?_) | refine brI (fun _ => ?_) (fun _ => ?_) | omega | exact wrI (by omega) (by omega) | rfl | exact hS.el (by omega) | exact finV rfl rfl | exact absurd rfl ‹_› | exact ih _ (by omega) (i + 1) rfl (by omega) (by omega) | fail)
theorem eqStrs_sem (ls : List (List DV)) (hS : Shp Try.prog 9 ls) (hl : ls.length ≤ 1048576) : FunSem Try.prog 15 [] [.c (.ro 9 ls), .c (.ro 9 ls)] [] (bv true) := by
  refine eqStrs_of ls ?_
  refine FC.ev (by kernel_rfl) 100 (X := brP ((↑(List.length ls) : Int) != (↑(List.length ls) : Int)) (FC.Fin (c_eqStrs ls) (AV.c (CV.v (Value.bool false))) []) (FC.At (c_eqStrs ls) [(1 : Nat), (1 : Nat), (0 : Nat), (1 : Nat), (0 : Nat)] { sl := mkS (26 : Nat) [((0 : Nat), AV.c (CV.ro (9 : Nat) ls)), ((1 : Nat), AV.c (CV.ro (9 : Nat) ls)), ((5 : Nat), AV.c (CV.v (Value.int IntKind.i64 (0 : Int))))], hp := [] })) (by kernel_rfl) ?_
  repeat' (first | (with_reducible refine And.intro ?_ ?_) | refine brN ?_ | refine brD (fun _ => ?_) (fun _ => ?_) | refine brE (fun _ => ?_) (fun _ => ?_) | refine brEn (fun _ => ?_) (fun _ => ?_) | refine brEb (fun _ => ?_) (fun _ => ?_) | refine brS (fun _ => ?_) (fun _ => ?_) | refine brI (fun _ => ?_) (fun _ => ?_) | omega | exact wrI (by omega) (by omega) | exact absurd rfl ‹_› | exact eqStrs_l ls hS hl _ 0 rfl (by omega) (by omega) | fail)
noncomputable def e_eqStrs : CE Try.prog := CE.pure 15 [.c (.l 9), .c (.l 9)] (fun
  | [.c (.ro 9 ls), .c (.ro 9 ms)] => some ([ls = ms, Shp Try.prog 9 ls, ls.length ≤ 1048576], bv true, [])
  | _ => none) (by
  intro ys q v hp1 h hq
  split at h <;> cases h
  exact (by have e := hq; simp only [andL] at e; obtain ⟨rfl, h1, h2, -⟩ := e; exact eqStrs_sem _ h1 h2))
noncomputable def c_eqCell (x0 : Int) (x1 : Int) : FC := mkC Try.prog Try.f36 [0, 1, 2, 3, 4] [0, 1, 2, 3, 4, 9, 14] [] [] 0 [] (bv true)
theorem eqCell_of (x0 : Int) (x1 : Int) (h : (c_eqCell x0 x1).At [] ⟨mkS 15 [(0, .ag [.v (.int .i64 x0), .v (.int .i64 x1)]), (1, .ag [.v (.int .i64 x0), .v (.int .i64 x1)])], []⟩) : FunSem Try.prog 36 [] [.ag [.v (.int .i64 x0), .v (.int .i64 x1)], .ag [.v (.int .i64 x0), .v (.int .i64 x1)]] [] (bv true) :=
  FC.sem (C := c_eqCell x0 x1) (m := 13) Try.func36 (by kernel_rfl) rfl rfl (by kernel_rfl) rfl rfl h
theorem eqCell_sem (x0 x1 : Int) : FunSem Try.prog 36 [] [.ag [.v (.int .i64 x0), .v (.int .i64 x1)], .ag [.v (.int .i64 x0), .v (.int .i64 x1)]] [] (bv true) := by
  refine eqCell_of x0 x1 ?_
  refine FC.ev (by kernel_rfl) 100 (X := brP (x0 != x0) (FC.Fin (c_eqCell x0 x1) (AV.c (CV.v (Value.bool false))) []) (brP (x1 != x1) (FC.Fin (c_eqCell x0 x1) (AV.c (CV.v (Value.bool false))) []) (FC.Fin (c_eqCell x0 x1) (AV.c (CV.v (Value.bool true))) []))) (by kernel_rfl) ?_
  repeat' (first | (with_reducible refine And.intro ?_ ?_) | refine brN ?_ | refine brD (fun _ => ?_) (fun _ => ?_) | refine brE (fun _ => ?_) (fun _ => ?_) | refine brEn (fun _ => ?_) (fun _ => ?_) | refine brEb (fun _ => ?_) (fun _ => ?_) | refine brS (fun _ => ?_) (fun _ => ?_) | refine brI (fun _ => ?_) (fun _ => ?_) | omega | exact wrI (by omega) (by omega) | exact finV rfl rfl | exact absurd rfl ‹_› | fail)
noncomputable def e_eqCell : CE Try.prog := CE.pure 36 [.ag [.x, .x], .ag [.x, .x]] (fun
  | [.ag [.v (.int .i64 x0), .v (.int .i64 x1)], .ag [.v (.int .i64 y0), .v (.int .i64 y1)]] => some ([x0 = y0, x1 = y1], bv true, [])
  | _ => none) (by
  intro ys q v hp1 h hq
  split at h <;> cases h
  exact (by have e := hq; simp only [andL] at e; obtain ⟨rfl, rfl, -⟩ := e; exact eqCell_sem _ _))
noncomputable def c_eqCells (ls : List (List DV)) : FC := mkC Try.prog Try.f14 [0, 1, 4, 5] [0, 1, 4, 5, 10, 14, 26] [([1, 1, 0, 1, 0], [0, 1, 5])] [e_eqCell] 0 [] (bv true)
theorem eqCells_of (ls : List (List DV)) (h : (c_eqCells ls).At [] ⟨mkS 27 [(0, .c (.ro 58 ls)), (1, .c (.ro 58 ls))], []⟩) : FunSem Try.prog 14 [] [.c (.ro 58 ls), .c (.ro 58 ls)] [] (bv true) :=
  FC.sem (C := c_eqCells ls) (m := 25) Try.func14 (by kernel_rfl) rfl rfl (by kernel_rfl) rfl rfl h
theorem eqCells_l (ls : List (List DV)) (hS : Shp Try.prog 58 ls) (hl : ls.length ≤ 1048576) : ∀ (m : Nat) (i : Int), m = (ls.length - i).toNat → 0 ≤ i → i ≤ ls.length →
    (c_eqCells ls).At [1, 1, 0, 1, 0] ⟨mkS 27 [(0, .c (.ro 58 ls)), (1, .c (.ro 58 ls)), (5, iv i)], []⟩ := by
  intro m
  induction m using Nat.strongRecOn with
  | _ m ih =>
    intro i hm h0 hn
    refine FC.loopB (by kernel_rfl) (by kernel_rfl) 100 (X := brP (decide (i < (↑(List.length ls) : Int))) ((0 : Int) ≤ i ∧ El Try.prog (58 : Nat) ls (Int.toNat i) ∧ (0 : Int) ≤ i ∧ El Try.prog (58 : Nat) ls (Int.toNat i) ∧ cI ls (Int.toNat i) (0 : Nat) = cI ls (Int.toNat i) (0 : Nat) ∧ cI ls (Int.toNat i) (1 : Nat) = cI ls (Int.toNat i) (1 : Nat) ∧ IntKind.wrap IntKind.i64 (i + (1 : Int)) = i + (1 : Int) ∧ FC.At (c_eqCells ls) [(1 : Nat), (1 : Nat), (0 : Nat), (1 : Nat), (0 : Nat)] { sl := mkS (27 : Nat) [((0 : Nat), AV.c (CV.ro (58 : Nat) ls)), ((1 : Nat), AV.c (CV.ro (58 : Nat) ls)), ((5 : Nat), AV.c (CV.v (Value.int IntKind.i64 (i + (1 : Int)))))], hp := [] }) (FC.Fin (c_eqCells ls) (AV.c (CV.v (Value.bool true))) [])) (by kernel_rfl) ?_
    repeat' (first | (with_reducible refine And.intro ?_ ?_) | refine brN ?_ | refine brD (fun _ => ?_) (fun _ => ?_) | refine brE (fun _ => ?_) (fun _ => ?_) | refine brEn (fun _ => ?_) (fun _ => ?_) | refine brEb (fun _ => ?_) (fun _ => ?_) | refine brS (fun _ => ?_) (fun _ => ?_) | refine brI (fun _ => ?_) (fun _ => ?_) | omega | exact wrI (by omega) (by omega) | rfl | exact hS.el (by omega) | exact finV rfl rfl | exact ih _ (by omega) (i + 1) rfl (by omega) (by omega) | fail)
theorem eqCells_sem (ls : List (List DV)) (hS : Shp Try.prog 58 ls) (hl : ls.length ≤ 1048576) : FunSem Try.prog 14 [] [.c (.ro 58 ls), .c (.ro 58 ls)] [] (bv true) := by
  refine eqCells_of ls ?_
  refine FC.ev (by kernel_rfl) 100 (X := brP ((↑(List.length ls) : Int) != (↑(List.length ls) : Int)) (FC.Fin (c_eqCells ls) (AV.c (CV.v (Value.bool false))) []) (FC.At (c_eqCells ls) [(1 : Nat), (1 : Nat), (0 : Nat), (1 : Nat), (0 : Nat)] { sl := mkS (27 : Nat) [((0 : Nat), AV.c (CV.ro (58 : Nat) ls)), ((1 : Nat), AV.c (CV.ro (58 : Nat) ls)), ((5 : Nat), AV.c (CV.v (Value.int IntKind.i64 (0 : Int))))], hp := [] })) (by kernel_rfl) ?_
  repeat' (first | (with_reducible refine And.intro ?_ ?_) | refine brN ?_ | refine brD (fun _ => ?_) (fun _ => ?_) | refine brE (fun _ => ?_) (fun _ => ?_) | refine brEn (fun _ => ?_) (fun _ => ?_) | refine brEb (fun _ => ?_) (fun _ => ?_) | refine brS (fun _ => ?_) (fun _ => ?_) | refine brI (fun _ => ?_) (fun _ => ?_) | omega | exact wrI (by omega) (by omega) | exact absurd rfl ‹_› | exact eqCells_l ls hS hl _ 0 rfl (by omega) (by omega) | fail)
noncomputable def e_eqCells : CE Try.prog := CE.pure 14 [.c (.l 58), .c (.l 58)] (fun
  | [.c (.ro 58 ls), .c (.ro 58 ms)] => some ([ls = ms, Shp Try.prog 58 ls, ls.length ≤ 1048576], bv true, [])
  | _ => none) (by
  intro ys q v hp1 h hq
  split at h <;> cases h
  exact (by have e := hq; simp only [andL] at e; obtain ⟨rfl, h1, h2, -⟩ := e; exact eqCells_sem _ h1 h2))
/-! Marks. -/
def dig (k : Int) : ByteArray := rowStr [[.s (.int .u8 (48 + k.tmod 10))]]
def mtL : Nat → Int → ByteArray → ByteArray
  | 0, _, out => out
  | n + 1, k, out => if k > 0 then mtL n (k.tdiv 10) (dig k ++ out) else out
def mkT (k : Int) : ByteArray := if k ≤ 0 then "m0".toUTF8 else "m".toUTF8 ++ mtL k.toNat k ⟨#[]⟩
noncomputable def c_mkText (k : Int) : FC := mkC Try.prog Try.f39 [0, 2, 3] [0, 2, 3, 5, 7] [([1, 1, 1, 0, 0], [0, 3])] [] 0 [] (sv (mkT k))
theorem mkText_of (k : Int) (h : (c_mkText k).At [] ⟨mkS 20 [(0, iv k)], []⟩) : FunSem Try.prog 39 [] [iv k] [] (sv (mkT k)) :=
  FC.sem (C := c_mkText k) (m := 19) Try.func39 (by kernel_rfl) rfl rfl (by kernel_rfl) rfl rfl h
theorem dig_size (q : Int) : (dig q).size = 1 := by simp [dig, rowStr]; rfl
theorem mkText_l (k : Int) : ∀ (m : Nat) (q : Int) (out : ByteArray) (f : Nat), m = q.toNat → 0 ≤ q → q + out.size ≤ 1099511627776 → q.toNat ≤ f → mtL f q out = mtL k.toNat k ⟨#[]⟩ → 0 < k →
    (c_mkText k).At [1, 1, 1, 0, 0] ⟨mkS 20 [(0, iv q), (3, sv out)], []⟩ := by
  intro m
  induction m using Nat.strongRecOn with
  | _ m ih =>
    intro q out f hm h0 hs hf hL hk
    refine FC.loopB (by kernel_rfl) (by kernel_rfl) 100 (X := brP (decide (q > (0 : Int))) ((10 : Int) ≠ (0 : Int) ∧ IntKind.wrap IntKind.i64 ((48 : Int) + Int.tmod q (10 : Int)) = (48 : Int) + Int.tmod q (10 : Int) ∧ IntKind.wrap IntKind.u8 ((48 : Int) + Int.tmod q (10 : Int)) = (48 : Int) + Int.tmod q (10 : Int) ∧ (List.length [[DV.s (Value.int IntKind.u8 ((48 : Int) + Int.tmod q (10 : Int)))]] = List.length [[DV.s (Value.int IntKind.u8 ((48 : Int) + Int.tmod q (10 : Int)))]] ∧ allU8 [[DV.s (Value.int IntKind.u8 ((48 : Int) + Int.tmod q (10 : Int)))]] = true ∧ [[DV.s (Value.int IntKind.u8 ((48 : Int) + Int.tmod q (10 : Int)))]] ≠ []) ∧ (↑(ByteArray.size (rowStr [[DV.s (Value.int IntKind.u8 ((48 : Int) + Int.tmod q (10 : Int)))]]) + ByteArray.size out) : Int) ≤ (9223372036854775807 : Int) ∧ ((10 : Int) ≠ (0 : Int) ∧ IntKind.wrap IntKind.i64 (Int.tdiv q (10 : Int)) = Int.tdiv q (10 : Int)) ∧ FC.At (c_mkText k) [(1 : Nat), (1 : Nat), (1 : Nat), (0 : Nat), (0 : Nat)] { sl := mkS (20 : Nat) [((0 : Nat), AV.c (CV.v (Value.int IntKind.i64 (Int.tdiv q (10 : Int))))), ((3 : Nat), AV.c (CV.v (Value.string (rowStr [[DV.s (Value.int IntKind.u8 ((48 : Int) + Int.tmod q (10 : Int)))]] ++ out))))], hp := [] }) ((↑(ByteArray.size { data := #[(109 : UInt8)] } + ByteArray.size out) : Int) ≤ (9223372036854775807 : Int) ∧ FC.Fin (c_mkText k) (AV.c (CV.v (Value.string ({ data := #[(109 : UInt8)] } ++ out)))) [])) (by kernel_rfl) ?_
    have hd := dig_size q
    have hr0 : 0 ≤ q.tmod 10 := Int.tmod_nonneg _ h0
    have hr1 : q.tmod 10 < 10 := Int.tmod_lt_of_pos _ (by omega)
    have hq0 : 0 ≤ q.tdiv 10 := Int.tdiv_nonneg h0 (by omega)
    have hq1 : q.tdiv 10 * 10 + q.tmod 10 = q := Int.tdiv_mul_add_tmod q 10
    have hstep : q > 0 → ∃ f', f = f' + 1 ∧ mtL f' (q.tdiv 10) (dig q ++ out) = mtL k.toNat k ⟨#[]⟩ := fun h => by
      cases f with
      | zero => omega
      | succ f => exact ⟨f, rfl, by rw [← hL]; simp only [mtL]; rw [if_pos h]⟩
    refine brD (fun hp => ?_) (fun hp => ?_)
    · obtain ⟨f', hfe, hL'⟩ := hstep hp
      clear hstep
      have hlt : (q.tdiv 10).toNat < m := by omega
      have hle : (q.tdiv 10).toNat ≤ f' := by omega
      refine ⟨by omega, wrI (by omega) (by omega), wrU (by omega) (by omega), ⟨rfl, rfl, by simp⟩, ?_, ⟨by omega, wrI (by omega) (by omega)⟩, ?_⟩
      · show (((dig q).size + out.size : Nat) : Int) ≤ _; omega
      · refine ih (q.tdiv 10).toNat hlt (q.tdiv 10) (dig q ++ out) f' rfl hq0 ?_ hle hL' hk
        have : (dig q ++ out).size = 1 + out.size := by rw [ByteArray.size_append, hd]
        omega
    · have hL2 : mtL f q out = out := by
        cases f with
        | zero => rfl
        | succ f => simp only [mtL]; rw [if_neg hp]
      rw [hL2] at hL
      refine ⟨?_, finV (sv_eq ?_) rfl⟩
      · show (((1 : Nat) + out.size : Nat) : Int) ≤ _; omega
      · unfold mkT; rw [if_neg (by omega), ← hL]; rfl
theorem mkText_sem (k : Int) (h0 : 0 < k) (h1 : k ≤ 1099511627776) : FunSem Try.prog 39 [] [iv k] [] (sv (mkT k)) := by
  refine mkText_of k ?_
  refine FC.ev (by kernel_rfl) 100 (X := brP (decide (k ≤ (0 : Int))) (FC.Fin (c_mkText k) (AV.c (CV.v (Value.string { data := #[(109 : UInt8), (48 : UInt8)] }))) []) (FC.At (c_mkText k) [(1 : Nat), (1 : Nat), (1 : Nat), (0 : Nat), (0 : Nat)] { sl := mkS (20 : Nat) [((0 : Nat), AV.c (CV.v (Value.int IntKind.i64 k))), ((3 : Nat), AV.c (CV.v (Value.string { data := #[] })))], hp := [] })) (by kernel_rfl) ?_
  refine brD (fun h => absurd h (by omega)) (fun _ => ?_)
  exact mkText_l k _ k _ _ rfl (by omega) (by show k + ((0 : Nat) : Int) ≤ _; omega) (Nat.le_refl _) rfl h0
noncomputable def e_mkText : CE Try.prog := CE.pure 39 [.c .x] (fun
  | [.c (.v (.int .i64 k))] => some ([0 < k, k ≤ 1099511627776], sv (mkT k), [])
  | _ => none) (by
  intro ys q v hp1 h hq
  split at h <;> cases h
  exact mkText_sem _ hq.1 hq.2.1)
/-- An element, marked from k on. -/
def mkCells : List CS → Int → List DV
  | [], _ => []
  | .s :: r, k => .s (.string (mkT k)) :: mkCells r (k + 1)
  | .i kd :: r, k => .s (.int kd k) :: mkCells r (k + 1)
  | _ :: r, k => .no :: mkCells r k
def mkRows (sh : List CS) : Nat → Int → List (List DV)
  | 0, _ => []
  | n + 1, k => mkCells sh k :: mkRows sh n (k + sh.length)
theorem mkRows_len (sh : List CS) : ∀ (n : Nat) (k : Int), (mkRows sh n k).length = n := by
  intro n
  induction n with
  | zero => intro k; rfl
  | succ n ih => intro k; simp [mkRows, ih]
theorem mkRows_get (sh : List CS) : ∀ (n : Nat) (k : Int) (i : Nat), i < n → (mkRows sh n k)[i]? = some (mkCells sh (k + i * sh.length)) := by
  intro n
  induction n with
  | zero => intro k i h; omega
  | succ n ih =>
    intro k i h
    cases i with
    | zero => simp [mkRows]
    | succ i =>
      simp only [mkRows, List.getElem?_cons_succ]
      rw [ih _ _ (by omega)]
      congr 2
      push_cast
      rw [Int.add_mul]; omega
theorem cD_set {ms : List (List DV)} {i j : Nat} {cs : List DV} (hi : i < ms.length) : cD (ms.set i cs) i j = cs.getD j .no := by
  simp [cD, List.getD_eq_getElem?_getD, List.getElem?_set_self hi]
theorem cI_set {ms : List (List DV)} {i j : Nat} {cs : List DV} (hi : i < ms.length) : cI (ms.set i cs) i j = dI (cs.getD j .no) := by unfold cI; rw [cD_set hi]
theorem cS_set {ms : List (List DV)} {i j : Nat} {cs : List DV} (hi : i < ms.length) : cS (ms.set i cs) i j = dS (cs.getD j .no) := by unfold cS; rw [cD_set hi]
theorem mk_step {sh : List CS} {k q i : Int} {ms : List (List DV)} {j : Nat} (hms : ∀ j : Nat, j < i.toNat → ms[j]? = some (mkCells sh (k + j * sh.length))) (h0 : 0 ≤ i) (hi : i.toNat < ms.length) (hq : q = k + i * sh.length) (hj : j < (i + 1).toNat) :
    (ms.set i.toNat (mkCells sh q))[j]? = some (mkCells sh (k + j * sh.length)) := by
  by_cases h : j = i.toNat
  · subst h
    rw [List.getElem?_set_self hi, hq, Int.toNat_of_nonneg h0]
  · rw [List.getElem?_set_ne (by omega)]; exact hms j (by omega)
theorem mk_all {sh : List CS} {k i : Int} {ms : List (List DV)} {n : Nat} (hms : ∀ j : Nat, j < i.toNat → ms[j]? = some (mkCells sh (k + j * sh.length))) (hl : ms.length = n) (hi : i.toNat = n) : ms = mkRows sh n k := by
  refine List.ext_getElem? fun j => ?_
  by_cases hj : j < n
  · rw [hms j (by omega), mkRows_get sh n k j hj]
  · rw [List.getElem?_eq_none (by omega), List.getElem?_eq_none (by rw [mkRows_len]; omega)]
end Go.Proofs.Ytekdfddodabfcaa
/- Contracts: marks on rows of plain cells. (Printed by gen_marks.py.) -/
namespace Go.Proofs.Ytekdfddodabfcaa
open Go.RowKit
set_option linter.unusedVariables false
set_option linter.unusedSectionVars false
set_option linter.unusedSimpArgs false
noncomputable def c_mkKinds (ls : List (List DV)) (k : Int) : FC := mkC Try.prog Try.f37 [0, 1, 4, 5] [0, 1, 4, 5, 9] [([1, 0, 1, 0], [0, 1, 5])] [e_mkText] 1 [some (.row true 50 (mkRows [.s, .i .i64, .i .i64] ls.length k))] (iv (k + ls.length * 3))
theorem mkKinds_of (ls : List (List DV)) (k : Int) (h : (c_mkKinds ls k).At [] ⟨mkS 35 [(0, .c (.sl 0 ls.length)), (1, iv k)], [some (.row true 50 ls)]⟩) : FunSem Try.prog 37 [some (.row true 50 ls)] [.c (.sl 0 ls.length), iv k] [some (.row true 50 (mkRows [.s, .i .i64, .i .i64] ls.length k))] (iv (k + ls.length * 3)) :=
  FC.sem (C := c_mkKinds ls k) (m := 33) Try.func37 (by kernel_rfl) rfl rfl (by kernel_rfl) rfl rfl h
theorem mkKinds_l (ls : List (List DV)) (k : Int) (hl : ls.length ≤ 1048576) (hk : 0 < k) (hk1 : k ≤ 1000000000) : ∀ (m : Nat) (i q : Int) (ms : List (List DV)) (n : Nat), m = (ls.length - i).toNat → 0 ≤ i → i ≤ ls.length → q = k + i * 3 → n = ms.length → ms.length = ls.length → Shp Try.prog 50 ms → (∀ j : Nat, j < i.toNat → ms[j]? = some (mkCells [.s, .i .i64, .i .i64] (k + j * 3))) →
    (c_mkKinds ls k).At [1, 0, 1, 0] ⟨mkS 35 [(0, .c (.sl 0 n)), (1, iv q), (5, iv i)], [some (.row true 50 ms)]⟩ := by
  intro m
  induction m using Nat.strongRecOn with
  | _ m ih =>
    intro i q ms n hm h0 hn hq hn2 hlen hS hms
    refine FC.loopB (by kernel_rfl) (by kernel_rfl) 100 (X := brP (decide (i < (↑n : Int))) ((0 : Int) < q ∧ q ≤ (1099511627776 : Int) ∧ (0 : Int) ≤ i ∧ (n = List.length ms ∧ Int.toNat i < n) ∧ El Try.prog (50 : Nat) ms (Int.toNat i) ∧ IntKind.wrap IntKind.i64 (q + (1 : Int)) = q + (1 : Int) ∧ (0 : Int) ≤ i ∧ (n = List.length (List.set ms (Int.toNat i) [DV.s (Value.string (mkT q)), DV.s (Value.int IntKind.i64 (cI ms (Int.toNat i) (1 : Nat))), DV.s (Value.int IntKind.i64 (cI ms (Int.toNat i) (2 : Nat)))]) ∧ Int.toNat i < n) ∧ El Try.prog (50 : Nat) (List.set ms (Int.toNat i) [DV.s (Value.string (mkT q)), DV.s (Value.int IntKind.i64 (cI ms (Int.toNat i) (1 : Nat))), DV.s (Value.int IntKind.i64 (cI ms (Int.toNat i) (2 : Nat)))]) (Int.toNat i) ∧ IntKind.wrap IntKind.i64 (q + (1 : Int) + (1 : Int)) = q + (1 : Int) + (1 : Int) ∧ (0 : Int) ≤ i ∧ (n = List.length (List.set (List.set ms (Int.toNat i) [DV.s (Value.string (mkT q)), DV.s (Value.int IntKind.i64 (cI ms (Int.toNat i) (1 : Nat))), DV.s (Value.int IntKind.i64 (cI ms (Int.toNat i) (2 : Nat)))]) (Int.toNat i) [DV.s (Value.string (cS (List.set ms (Int.toNat i) [DV.s (Value.string (mkT q)), DV.s (Value.int IntKind.i64 (cI ms (Int.toNat i) (1 : Nat))), DV.s (Value.int IntKind.i64 (cI ms (Int.toNat i) (2 : Nat)))]) (Int.toNat i) (0 : Nat))), DV.s (Value.int IntKind.i64 (q + (1 : Int))), DV.s (Value.int IntKind.i64 (cI (List.set ms (Int.toNat i) [DV.s (Value.string (mkT q)), DV.s (Value.int IntKind.i64 (cI ms (Int.toNat i) (1 : Nat))), DV.s (Value.int IntKind.i64 (cI ms (Int.toNat i) (2 : Nat)))]) (Int.toNat i) (2 : Nat)))]) ∧ Int.toNat i < n) ∧ El Try.prog (50 : Nat) (List.set (List.set ms (Int.toNat i) [DV.s (Value.string (mkT q)), DV.s (Value.int IntKind.i64 (cI ms (Int.toNat i) (1 : Nat))), DV.s (Value.int IntKind.i64 (cI ms (Int.toNat i) (2 : Nat)))]) (Int.toNat i) [DV.s (Value.string (cS (List.set ms (Int.toNat i) [DV.s (Value.string (mkT q)), DV.s (Value.int IntKind.i64 (cI ms (Int.toNat i) (1 : Nat))), DV.s (Value.int IntKind.i64 (cI ms (Int.toNat i) (2 : Nat)))]) (Int.toNat i) (0 : Nat))), DV.s (Value.int IntKind.i64 (q + (1 : Int))), DV.s (Value.int IntKind.i64 (cI (List.set ms (Int.toNat i) [DV.s (Value.string (mkT q)), DV.s (Value.int IntKind.i64 (cI ms (Int.toNat i) (1 : Nat))), DV.s (Value.int IntKind.i64 (cI ms (Int.toNat i) (2 : Nat)))]) (Int.toNat i) (2 : Nat)))]) (Int.toNat i) ∧ IntKind.wrap IntKind.i64 (q + (1 : Int) + (1 : Int) + (1 : Int)) = q + (1 : Int) + (1 : Int) + (1 : Int) ∧ IntKind.wrap IntKind.i64 (i + (1 : Int)) = i + (1 : Int) ∧ FC.At (c_mkKinds ls k) [(1 : Nat), (0 : Nat), (1 : Nat), (0 : Nat)] { sl := mkS (35 : Nat) [((0 : Nat), AV.c (CV.sl (0 : Nat) n)), ((1 : Nat), AV.c (CV.v (Value.int IntKind.i64 (q + (1 : Int) + (1 : Int) + (1 : Int))))), ((5 : Nat), AV.c (CV.v (Value.int IntKind.i64 (i + (1 : Int)))))], hp := [some (AB.row true (50 : Nat) (List.set (List.set (List.set ms (Int.toNat i) [DV.s (Value.string (mkT q)), DV.s (Value.int IntKind.i64 (cI ms (Int.toNat i) (1 : Nat))), DV.s (Value.int IntKind.i64 (cI ms (Int.toNat i) (2 : Nat)))]) (Int.toNat i) [DV.s (Value.string (cS (List.set ms (Int.toNat i) [DV.s (Value.string (mkT q)), DV.s (Value.int IntKind.i64 (cI ms (Int.toNat i) (1 : Nat))), DV.s (Value.int IntKind.i64 (cI ms (Int.toNat i) (2 : Nat)))]) (Int.toNat i) (0 : Nat))), DV.s (Value.int IntKind.i64 (q + (1 : Int))), DV.s (Value.int IntKind.i64 (cI (List.set ms (Int.toNat i) [DV.s (Value.string (mkT q)), DV.s (Value.int IntKind.i64 (cI ms (Int.toNat i) (1 : Nat))), DV.s (Value.int IntKind.i64 (cI ms (Int.toNat i) (2 : Nat)))]) (Int.toNat i) (2 : Nat)))]) (Int.toNat i) [DV.s (Value.string (cS (List.set (List.set ms (Int.toNat i) [DV.s (Value.string (mkT q)), DV.s (Value.int IntKind.i64 (cI ms (Int.toNat i) (1 : Nat))), DV.s (Value.int IntKind.i64 (cI ms (Int.toNat i) (2 : Nat)))]) (Int.toNat i) [DV.s (Value.string (cS (List.set ms (Int.toNat i) [DV.s (Value.string (mkT q)), DV.s (Value.int IntKind.i64 (cI ms (Int.toNat i) (1 : Nat))), DV.s (Value.int IntKind.i64 (cI ms (Int.toNat i) (2 : Nat)))]) (Int.toNat i) (0 : Nat))), DV.s (Value.int IntKind.i64 (q + (1 : Int))), DV.s (Value.int IntKind.i64 (cI (List.set ms (Int.toNat i) [DV.s (Value.string (mkT q)), DV.s (Value.int IntKind.i64 (cI ms (Int.toNat i) (1 : Nat))), DV.s (Value.int IntKind.i64 (cI ms (Int.toNat i) (2 : Nat)))]) (Int.toNat i) (2 : Nat)))]) (Int.toNat i) (0 : Nat))), DV.s (Value.int IntKind.i64 (cI (List.set (List.set ms (Int.toNat i) [DV.s (Value.string (mkT q)), DV.s (Value.int IntKind.i64 (cI ms (Int.toNat i) (1 : Nat))), DV.s (Value.int IntKind.i64 (cI ms (Int.toNat i) (2 : Nat)))]) (Int.toNat i) [DV.s (Value.string (cS (List.set ms (Int.toNat i) [DV.s (Value.string (mkT q)), DV.s (Value.int IntKind.i64 (cI ms (Int.toNat i) (1 : Nat))), DV.s (Value.int IntKind.i64 (cI ms (Int.toNat i) (2 : Nat)))]) (Int.toNat i) (0 : Nat))), DV.s (Value.int IntKind.i64 (q + (1 : Int))), DV.s (Value.int IntKind.i64 (cI (List.set ms (Int.toNat i) [DV.s (Value.string (mkT q)), DV.s (Value.int IntKind.i64 (cI ms (Int.toNat i) (1 : Nat))), DV.s (Value.int IntKind.i64 (cI ms (Int.toNat i) (2 : Nat)))]) (Int.toNat i) (2 : Nat)))]) (Int.toNat i) (1 : Nat))), DV.s (Value.int IntKind.i64 (q + (1 : Int) + (1 : Int)))]))] }) (FC.Fin (c_mkKinds ls k) (AV.c (CV.v (Value.int IntKind.i64 q))) [some (AB.row true (50 : Nat) ms)])) (by kernel_rfl) ?_
    repeat' (first | (with_reducible refine And.intro ?_ ?_) | refine brN ?_ | refine brD (fun _ => ?_) (fun _ => ?_) | refine brE (fun _ => ?_) (fun _ => ?_) | refine brEn (fun _ => ?_) (fun _ => ?_) | refine brEb (fun _ => ?_) (fun _ => ?_) | refine brS (fun _ => ?_) (fun _ => ?_) | refine brI (fun _ => ?_) (fun _ => ?_) | omega | exact wrI (by omega) (by omega) | exact hS.el (by omega) | exact (hS.set (by kernel_rfl)).el (by simp only [List.length_set]; omega) | exact ((hS.set (by kernel_rfl)).set (by kernel_rfl)).el (by simp only [List.length_set]; omega) | (simp only [List.length_set]; omega) | fail)
    · have hi : i.toNat < ms.length := by omega
      simp only [cI_set hi, cS_set hi, List.length_set, hi, List.set_set]
      refine ih _ (by omega) (i + 1) _ _ n rfl (by omega) (by omega) (by omega) (by simp; omega) (by simp; omega) (hS.set (by kernel_rfl)) (fun j hj => ?_)
      exact mk_step (sh := [.s, .i .i64, .i .i64]) hms h0 hi hq hj
    · have e := mk_all (sh := [.s, .i .i64, .i .i64]) (n := ls.length) hms hlen (by omega)
      subst hn2
      refine finV (iv_eq (by omega)) ?_
      rw [e]; rfl
theorem mkKinds_sem (ls : List (List DV)) (k : Int) (hS : Shp Try.prog 50 ls) (hl : ls.length ≤ 1048576) (hk : 0 < k) (hk1 : k ≤ 1000000000) : FunSem Try.prog 37 [some (.row true 50 ls)] [.c (.sl 0 ls.length), iv k] [some (.row true 50 (mkRows [.s, .i .i64, .i .i64] ls.length k))] (iv (k + ls.length * 3)) := by
  refine mkKinds_of ls k ?_
  refine FC.ev (by kernel_rfl) 100 (X := FC.At (c_mkKinds ls k) [(1 : Nat), (0 : Nat), (1 : Nat), (0 : Nat)] { sl := mkS (35 : Nat) [((0 : Nat), AV.c (CV.sl (0 : Nat) (List.length ls))), ((1 : Nat), AV.c (CV.v (Value.int IntKind.i64 k))), ((5 : Nat), AV.c (CV.v (Value.int IntKind.i64 (0 : Int))))], hp := [some (AB.row true (50 : Nat) ls)] }) (by kernel_rfl) ?_
  repeat' (first | (with_reducible refine And.intro ?_ ?_) | refine brN ?_ | refine brD (fun _ => ?_) (fun _ => ?_) | refine brE (fun _ => ?_) (fun _ => ?_) | refine brEn (fun _ => ?_) (fun _ => ?_) | refine brEb (fun _ => ?_) (fun _ => ?_) | refine brS (fun _ => ?_) (fun _ => ?_) | refine brI (fun _ => ?_) (fun _ => ?_) | omega | exact wrI (by omega) (by omega) | fail)
  exact mkKinds_l ls k hl hk hk1 _ 0 k ls _ rfl (by omega) (by omega) (by omega) rfl rfl hS (fun j hj => by omega)
noncomputable def e_mkKinds : CE Try.prog := CE.mut 37 [.c (.h 50), .c (.r .x)] (fun
  | [.c (.sl 0 n), .c (.v (.int .i64 k))], [some (.row true 50 ls)] => some ([n = ls.length, Shp Try.prog 50 ls, ls.length ≤ 1048576, 0 < k, k ≤ 1000000000], iv (k + ls.length * 3), [some (.row true 50 (mkRows [.s, .i .i64, .i .i64] ls.length k))])
  | _, _ => none) (by
  intro ys hp0 q v hp1 h hq
  split at h <;> cases h
  exact (by have e := hq; simp only [andL] at e; obtain ⟨rfl, h1, h2, h3, h4, -⟩ := e; exact mkKinds_sem _ _ h1 h2 h3 h4))
theorem mkKinds_shp (n : Nat) : ∀ (k : Int), Shp Try.prog 50 (mkRows [.s, .i .i64, .i .i64] n k) := by
  induction n with
  | zero => intro k; exact Shp.nil
  | succ n ih => intro k cs hc; rcases List.mem_cons.1 hc with rfl | hc
                 · kernel_rfl
                 · exact ih _ cs hc
noncomputable def c_mkPoints (ls : List (List DV)) (k : Int) : FC := mkC Try.prog Try.f38 [0, 1, 4, 5] [0, 1, 4, 5, 9] [([1, 0, 1, 0], [0, 1, 5])] [e_mkText] 1 [some (.row true 53 (mkRows [.s, .i .i64, .i .i64] ls.length k))] (iv (k + ls.length * 3))
theorem mkPoints_of (ls : List (List DV)) (k : Int) (h : (c_mkPoints ls k).At [] ⟨mkS 35 [(0, .c (.sl 0 ls.length)), (1, iv k)], [some (.row true 53 ls)]⟩) : FunSem Try.prog 38 [some (.row true 53 ls)] [.c (.sl 0 ls.length), iv k] [some (.row true 53 (mkRows [.s, .i .i64, .i .i64] ls.length k))] (iv (k + ls.length * 3)) :=
  FC.sem (C := c_mkPoints ls k) (m := 33) Try.func38 (by kernel_rfl) rfl rfl (by kernel_rfl) rfl rfl h
theorem mkPoints_l (ls : List (List DV)) (k : Int) (hl : ls.length ≤ 1048576) (hk : 0 < k) (hk1 : k ≤ 1000000000) : ∀ (m : Nat) (i q : Int) (ms : List (List DV)) (n : Nat), m = (ls.length - i).toNat → 0 ≤ i → i ≤ ls.length → q = k + i * 3 → n = ms.length → ms.length = ls.length → Shp Try.prog 53 ms → (∀ j : Nat, j < i.toNat → ms[j]? = some (mkCells [.s, .i .i64, .i .i64] (k + j * 3))) →
    (c_mkPoints ls k).At [1, 0, 1, 0] ⟨mkS 35 [(0, .c (.sl 0 n)), (1, iv q), (5, iv i)], [some (.row true 53 ms)]⟩ := by
  intro m
  induction m using Nat.strongRecOn with
  | _ m ih =>
    intro i q ms n hm h0 hn hq hn2 hlen hS hms
    refine FC.loopB (by kernel_rfl) (by kernel_rfl) 100 (X := brP (decide (i < (↑n : Int))) ((0 : Int) < q ∧ q ≤ (1099511627776 : Int) ∧ (0 : Int) ≤ i ∧ (n = List.length ms ∧ Int.toNat i < n) ∧ El Try.prog (53 : Nat) ms (Int.toNat i) ∧ IntKind.wrap IntKind.i64 (q + (1 : Int)) = q + (1 : Int) ∧ (0 : Int) ≤ i ∧ (n = List.length (List.set ms (Int.toNat i) [DV.s (Value.string (mkT q)), DV.s (Value.int IntKind.i64 (cI ms (Int.toNat i) (1 : Nat))), DV.s (Value.int IntKind.i64 (cI ms (Int.toNat i) (2 : Nat)))]) ∧ Int.toNat i < n) ∧ El Try.prog (53 : Nat) (List.set ms (Int.toNat i) [DV.s (Value.string (mkT q)), DV.s (Value.int IntKind.i64 (cI ms (Int.toNat i) (1 : Nat))), DV.s (Value.int IntKind.i64 (cI ms (Int.toNat i) (2 : Nat)))]) (Int.toNat i) ∧ IntKind.wrap IntKind.i64 (q + (1 : Int) + (1 : Int)) = q + (1 : Int) + (1 : Int) ∧ (0 : Int) ≤ i ∧ (n = List.length (List.set (List.set ms (Int.toNat i) [DV.s (Value.string (mkT q)), DV.s (Value.int IntKind.i64 (cI ms (Int.toNat i) (1 : Nat))), DV.s (Value.int IntKind.i64 (cI ms (Int.toNat i) (2 : Nat)))]) (Int.toNat i) [DV.s (Value.string (cS (List.set ms (Int.toNat i) [DV.s (Value.string (mkT q)), DV.s (Value.int IntKind.i64 (cI ms (Int.toNat i) (1 : Nat))), DV.s (Value.int IntKind.i64 (cI ms (Int.toNat i) (2 : Nat)))]) (Int.toNat i) (0 : Nat))), DV.s (Value.int IntKind.i64 (q + (1 : Int))), DV.s (Value.int IntKind.i64 (cI (List.set ms (Int.toNat i) [DV.s (Value.string (mkT q)), DV.s (Value.int IntKind.i64 (cI ms (Int.toNat i) (1 : Nat))), DV.s (Value.int IntKind.i64 (cI ms (Int.toNat i) (2 : Nat)))]) (Int.toNat i) (2 : Nat)))]) ∧ Int.toNat i < n) ∧ El Try.prog (53 : Nat) (List.set (List.set ms (Int.toNat i) [DV.s (Value.string (mkT q)), DV.s (Value.int IntKind.i64 (cI ms (Int.toNat i) (1 : Nat))), DV.s (Value.int IntKind.i64 (cI ms (Int.toNat i) (2 : Nat)))]) (Int.toNat i) [DV.s (Value.string (cS (List.set ms (Int.toNat i) [DV.s (Value.string (mkT q)), DV.s (Value.int IntKind.i64 (cI ms (Int.toNat i) (1 : Nat))), DV.s (Value.int IntKind.i64 (cI ms (Int.toNat i) (2 : Nat)))]) (Int.toNat i) (0 : Nat))), DV.s (Value.int IntKind.i64 (q + (1 : Int))), DV.s (Value.int IntKind.i64 (cI (List.set ms (Int.toNat i) [DV.s (Value.string (mkT q)), DV.s (Value.int IntKind.i64 (cI ms (Int.toNat i) (1 : Nat))), DV.s (Value.int IntKind.i64 (cI ms (Int.toNat i) (2 : Nat)))]) (Int.toNat i) (2 : Nat)))]) (Int.toNat i) ∧ IntKind.wrap IntKind.i64 (q + (1 : Int) + (1 : Int) + (1 : Int)) = q + (1 : Int) + (1 : Int) + (1 : Int) ∧ IntKind.wrap IntKind.i64 (i + (1 : Int)) = i + (1 : Int) ∧ FC.At (c_mkPoints ls k) [(1 : Nat), (0 : Nat), (1 : Nat), (0 : Nat)] { sl := mkS (35 : Nat) [((0 : Nat), AV.c (CV.sl (0 : Nat) n)), ((1 : Nat), AV.c (CV.v (Value.int IntKind.i64 (q + (1 : Int) + (1 : Int) + (1 : Int))))), ((5 : Nat), AV.c (CV.v (Value.int IntKind.i64 (i + (1 : Int)))))], hp := [some (AB.row true (53 : Nat) (List.set (List.set (List.set ms (Int.toNat i) [DV.s (Value.string (mkT q)), DV.s (Value.int IntKind.i64 (cI ms (Int.toNat i) (1 : Nat))), DV.s (Value.int IntKind.i64 (cI ms (Int.toNat i) (2 : Nat)))]) (Int.toNat i) [DV.s (Value.string (cS (List.set ms (Int.toNat i) [DV.s (Value.string (mkT q)), DV.s (Value.int IntKind.i64 (cI ms (Int.toNat i) (1 : Nat))), DV.s (Value.int IntKind.i64 (cI ms (Int.toNat i) (2 : Nat)))]) (Int.toNat i) (0 : Nat))), DV.s (Value.int IntKind.i64 (q + (1 : Int))), DV.s (Value.int IntKind.i64 (cI (List.set ms (Int.toNat i) [DV.s (Value.string (mkT q)), DV.s (Value.int IntKind.i64 (cI ms (Int.toNat i) (1 : Nat))), DV.s (Value.int IntKind.i64 (cI ms (Int.toNat i) (2 : Nat)))]) (Int.toNat i) (2 : Nat)))]) (Int.toNat i) [DV.s (Value.string (cS (List.set (List.set ms (Int.toNat i) [DV.s (Value.string (mkT q)), DV.s (Value.int IntKind.i64 (cI ms (Int.toNat i) (1 : Nat))), DV.s (Value.int IntKind.i64 (cI ms (Int.toNat i) (2 : Nat)))]) (Int.toNat i) [DV.s (Value.string (cS (List.set ms (Int.toNat i) [DV.s (Value.string (mkT q)), DV.s (Value.int IntKind.i64 (cI ms (Int.toNat i) (1 : Nat))), DV.s (Value.int IntKind.i64 (cI ms (Int.toNat i) (2 : Nat)))]) (Int.toNat i) (0 : Nat))), DV.s (Value.int IntKind.i64 (q + (1 : Int))), DV.s (Value.int IntKind.i64 (cI (List.set ms (Int.toNat i) [DV.s (Value.string (mkT q)), DV.s (Value.int IntKind.i64 (cI ms (Int.toNat i) (1 : Nat))), DV.s (Value.int IntKind.i64 (cI ms (Int.toNat i) (2 : Nat)))]) (Int.toNat i) (2 : Nat)))]) (Int.toNat i) (0 : Nat))), DV.s (Value.int IntKind.i64 (cI (List.set (List.set ms (Int.toNat i) [DV.s (Value.string (mkT q)), DV.s (Value.int IntKind.i64 (cI ms (Int.toNat i) (1 : Nat))), DV.s (Value.int IntKind.i64 (cI ms (Int.toNat i) (2 : Nat)))]) (Int.toNat i) [DV.s (Value.string (cS (List.set ms (Int.toNat i) [DV.s (Value.string (mkT q)), DV.s (Value.int IntKind.i64 (cI ms (Int.toNat i) (1 : Nat))), DV.s (Value.int IntKind.i64 (cI ms (Int.toNat i) (2 : Nat)))]) (Int.toNat i) (0 : Nat))), DV.s (Value.int IntKind.i64 (q + (1 : Int))), DV.s (Value.int IntKind.i64 (cI (List.set ms (Int.toNat i) [DV.s (Value.string (mkT q)), DV.s (Value.int IntKind.i64 (cI ms (Int.toNat i) (1 : Nat))), DV.s (Value.int IntKind.i64 (cI ms (Int.toNat i) (2 : Nat)))]) (Int.toNat i) (2 : Nat)))]) (Int.toNat i) (1 : Nat))), DV.s (Value.int IntKind.i64 (q + (1 : Int) + (1 : Int)))]))] }) (FC.Fin (c_mkPoints ls k) (AV.c (CV.v (Value.int IntKind.i64 q))) [some (AB.row true (53 : Nat) ms)])) (by kernel_rfl) ?_
    repeat' (first | (with_reducible refine And.intro ?_ ?_) | refine brN ?_ | refine brD (fun _ => ?_) (fun _ => ?_) | refine brE (fun _ => ?_) (fun _ => ?_) | refine brEn (fun _ => ?_) (fun _ => ?_) | refine brEb (fun _ => ?_) (fun _ => ?_) | refine brS (fun _ => ?_) (fun _ => ?_) | refine brI (fun _ => ?_) (fun _ => ?_) | omega | exact wrI (by omega) (by omega) | exact hS.el (by omega) | exact (hS.set (by kernel_rfl)).el (by simp only [List.length_set]; omega) | exact ((hS.set (by kernel_rfl)).set (by kernel_rfl)).el (by simp only [List.length_set]; omega) | (simp only [List.length_set]; omega) | fail)
    · have hi : i.toNat < ms.length := by omega
      simp only [cI_set hi, cS_set hi, List.length_set, hi, List.set_set]
      refine ih _ (by omega) (i + 1) _ _ n rfl (by omega) (by omega) (by omega) (by simp; omega) (by simp; omega) (hS.set (by kernel_rfl)) (fun j hj => ?_)
      exact mk_step (sh := [.s, .i .i64, .i .i64]) hms h0 hi hq hj
    · have e := mk_all (sh := [.s, .i .i64, .i .i64]) (n := ls.length) hms hlen (by omega)
      subst hn2
      refine finV (iv_eq (by omega)) ?_
      rw [e]; rfl
theorem mkPoints_sem (ls : List (List DV)) (k : Int) (hS : Shp Try.prog 53 ls) (hl : ls.length ≤ 1048576) (hk : 0 < k) (hk1 : k ≤ 1000000000) : FunSem Try.prog 38 [some (.row true 53 ls)] [.c (.sl 0 ls.length), iv k] [some (.row true 53 (mkRows [.s, .i .i64, .i .i64] ls.length k))] (iv (k + ls.length * 3)) := by
  refine mkPoints_of ls k ?_
  refine FC.ev (by kernel_rfl) 100 (X := FC.At (c_mkPoints ls k) [(1 : Nat), (0 : Nat), (1 : Nat), (0 : Nat)] { sl := mkS (35 : Nat) [((0 : Nat), AV.c (CV.sl (0 : Nat) (List.length ls))), ((1 : Nat), AV.c (CV.v (Value.int IntKind.i64 k))), ((5 : Nat), AV.c (CV.v (Value.int IntKind.i64 (0 : Int))))], hp := [some (AB.row true (53 : Nat) ls)] }) (by kernel_rfl) ?_
  repeat' (first | (with_reducible refine And.intro ?_ ?_) | refine brN ?_ | refine brD (fun _ => ?_) (fun _ => ?_) | refine brE (fun _ => ?_) (fun _ => ?_) | refine brEn (fun _ => ?_) (fun _ => ?_) | refine brEb (fun _ => ?_) (fun _ => ?_) | refine brS (fun _ => ?_) (fun _ => ?_) | refine brI (fun _ => ?_) (fun _ => ?_) | omega | exact wrI (by omega) (by omega) | fail)
  exact mkPoints_l ls k hl hk hk1 _ 0 k ls _ rfl (by omega) (by omega) (by omega) rfl rfl hS (fun j hj => by omega)
noncomputable def e_mkPoints : CE Try.prog := CE.mut 38 [.c (.h 53), .c (.r .x)] (fun
  | [.c (.sl 0 n), .c (.v (.int .i64 k))], [some (.row true 53 ls)] => some ([n = ls.length, Shp Try.prog 53 ls, ls.length ≤ 1048576, 0 < k, k ≤ 1000000000], iv (k + ls.length * 3), [some (.row true 53 (mkRows [.s, .i .i64, .i .i64] ls.length k))])
  | _, _ => none) (by
  intro ys hp0 q v hp1 h hq
  split at h <;> cases h
  exact (by have e := hq; simp only [andL] at e; obtain ⟨rfl, h1, h2, h3, h4, -⟩ := e; exact mkPoints_sem _ _ h1 h2 h3 h4))
theorem mkPoints_shp (n : Nat) : ∀ (k : Int), Shp Try.prog 53 (mkRows [.s, .i .i64, .i .i64] n k) := by
  induction n with
  | zero => intro k; exact Shp.nil
  | succ n ih => intro k cs hc; rcases List.mem_cons.1 hc with rfl | hc
                 · kernel_rfl
                 · exact ih _ cs hc
noncomputable def c_mkStrings (ls : List (List DV)) (k : Int) : FC := mkC Try.prog Try.f17 [0, 1, 4, 5] [0, 1, 4, 5, 9] [([1, 0, 1, 0], [0, 1, 5])] [e_mkText] 1 [some (.row true 9 (mkRows [.s] ls.length k))] (iv (k + ls.length * 1))
theorem mkStrings_of (ls : List (List DV)) (k : Int) (h : (c_mkStrings ls k).At [] ⟨mkS 20 [(0, .c (.sl 0 ls.length)), (1, iv k)], [some (.row true 9 ls)]⟩) : FunSem Try.prog 17 [some (.row true 9 ls)] [.c (.sl 0 ls.length), iv k] [some (.row true 9 (mkRows [.s] ls.length k))] (iv (k + ls.length * 1)) :=
  FC.sem (C := c_mkStrings ls k) (m := 18) Try.func17 (by kernel_rfl) rfl rfl (by kernel_rfl) rfl rfl h
theorem mkStrings_l (ls : List (List DV)) (k : Int) (hl : ls.length ≤ 1048576) (hk : 0 < k) (hk1 : k ≤ 1000000000) : ∀ (m : Nat) (i q : Int) (ms : List (List DV)) (n : Nat), m = (ls.length - i).toNat → 0 ≤ i → i ≤ ls.length → q = k + i * 1 → n = ms.length → ms.length = ls.length → Shp Try.prog 9 ms → (∀ j : Nat, j < i.toNat → ms[j]? = some (mkCells [.s] (k + j * 1))) →
    (c_mkStrings ls k).At [1, 0, 1, 0] ⟨mkS 20 [(0, .c (.sl 0 n)), (1, iv q), (5, iv i)], [some (.row true 9 ms)]⟩ := by
  intro m
  induction m using Nat.strongRecOn with
  | _ m ih =>
    intro i q ms n hm h0 hn hq hn2 hlen hS hms
    refine FC.loopB (by kernel_rfl) (by kernel_rfl) 100 (X := brP (decide (i < (↑n : Int))) ((0 : Int) < q ∧ q ≤ (1099511627776 : Int) ∧ (0 : Int) ≤ i ∧ (n = List.length ms ∧ Int.toNat i < n) ∧ El Try.prog (9 : Nat) ms (Int.toNat i) ∧ IntKind.wrap IntKind.i64 (q + (1 : Int)) = q + (1 : Int) ∧ IntKind.wrap IntKind.i64 (i + (1 : Int)) = i + (1 : Int) ∧ FC.At (c_mkStrings ls k) [(1 : Nat), (0 : Nat), (1 : Nat), (0 : Nat)] { sl := mkS (20 : Nat) [((0 : Nat), AV.c (CV.sl (0 : Nat) n)), ((1 : Nat), AV.c (CV.v (Value.int IntKind.i64 (q + (1 : Int))))), ((5 : Nat), AV.c (CV.v (Value.int IntKind.i64 (i + (1 : Int)))))], hp := [some (AB.row true (9 : Nat) (List.set ms (Int.toNat i) [DV.s (Value.string (mkT q))]))] }) (FC.Fin (c_mkStrings ls k) (AV.c (CV.v (Value.int IntKind.i64 q))) [some (AB.row true (9 : Nat) ms)])) (by kernel_rfl) ?_
    repeat' (first | (with_reducible refine And.intro ?_ ?_) | refine brN ?_ | refine brD (fun _ => ?_) (fun _ => ?_) | refine brE (fun _ => ?_) (fun _ => ?_) | refine brEn (fun _ => ?_) (fun _ => ?_) | refine brEb (fun _ => ?_) (fun _ => ?_) | refine brS (fun _ => ?_) (fun _ => ?_) | refine brI (fun _ => ?_) (fun _ => ?_) | omega | exact wrI (by omega) (by omega) | exact hS.el (by omega) | (simp only [List.length_set]; omega) | fail)
    · have hi : i.toNat < ms.length := by omega
      refine ih _ (by omega) (i + 1) _ _ n rfl (by omega) (by omega) (by omega) (by simp; omega) (by simp; omega) (hS.set (by kernel_rfl)) (fun j hj => ?_)
      exact mk_step (sh := [.s]) hms h0 hi hq hj
    · have e := mk_all (sh := [.s]) (n := ls.length) hms hlen (by omega)
      subst hn2
      refine finV (iv_eq (by omega)) ?_
      rw [e]; rfl
theorem mkStrings_sem (ls : List (List DV)) (k : Int) (hS : Shp Try.prog 9 ls) (hl : ls.length ≤ 1048576) (hk : 0 < k) (hk1 : k ≤ 1000000000) : FunSem Try.prog 17 [some (.row true 9 ls)] [.c (.sl 0 ls.length), iv k] [some (.row true 9 (mkRows [.s] ls.length k))] (iv (k + ls.length * 1)) := by
  refine mkStrings_of ls k ?_
  refine FC.ev (by kernel_rfl) 100 (X := FC.At (c_mkStrings ls k) [(1 : Nat), (0 : Nat), (1 : Nat), (0 : Nat)] { sl := mkS (20 : Nat) [((0 : Nat), AV.c (CV.sl (0 : Nat) (List.length ls))), ((1 : Nat), AV.c (CV.v (Value.int IntKind.i64 k))), ((5 : Nat), AV.c (CV.v (Value.int IntKind.i64 (0 : Int))))], hp := [some (AB.row true (9 : Nat) ls)] }) (by kernel_rfl) ?_
  repeat' (first | (with_reducible refine And.intro ?_ ?_) | refine brN ?_ | refine brD (fun _ => ?_) (fun _ => ?_) | refine brE (fun _ => ?_) (fun _ => ?_) | refine brEn (fun _ => ?_) (fun _ => ?_) | refine brEb (fun _ => ?_) (fun _ => ?_) | refine brS (fun _ => ?_) (fun _ => ?_) | refine brI (fun _ => ?_) (fun _ => ?_) | omega | exact wrI (by omega) (by omega) | fail)
  exact mkStrings_l ls k hl hk hk1 _ 0 k ls _ rfl (by omega) (by omega) (by omega) rfl rfl hS (fun j hj => by omega)
noncomputable def e_mkStrings : CE Try.prog := CE.mut 17 [.c (.h 9), .c (.r .x)] (fun
  | [.c (.sl 0 n), .c (.v (.int .i64 k))], [some (.row true 9 ls)] => some ([n = ls.length, Shp Try.prog 9 ls, ls.length ≤ 1048576, 0 < k, k ≤ 1000000000], iv (k + ls.length * 1), [some (.row true 9 (mkRows [.s] ls.length k))])
  | _, _ => none) (by
  intro ys hp0 q v hp1 h hq
  split at h <;> cases h
  exact (by have e := hq; simp only [andL] at e; obtain ⟨rfl, h1, h2, h3, h4, -⟩ := e; exact mkStrings_sem _ _ h1 h2 h3 h4))
theorem mkStrings_shp (n : Nat) : ∀ (k : Int), Shp Try.prog 9 (mkRows [.s] n k) := by
  induction n with
  | zero => intro k; exact Shp.nil
  | succ n ih => intro k cs hc; rcases List.mem_cons.1 hc with rfl | hc
                 · kernel_rfl
                 · exact ih _ cs hc
noncomputable def c_mkCells (ls : List (List DV)) (k : Int) : FC := mkC Try.prog Try.f18 [0, 1, 4, 5] [0, 1, 4, 5, 9] [([1, 0, 1, 0], [0, 1, 5])] [] 1 [some (.row true 58 (mkRows [.i .i64, .i .i64] ls.length k))] (iv (k + ls.length * 2))
theorem mkCells_of (ls : List (List DV)) (k : Int) (h : (c_mkCells ls k).At [] ⟨mkS 27 [(0, .c (.sl 0 ls.length)), (1, iv k)], [some (.row true 58 ls)]⟩) : FunSem Try.prog 18 [some (.row true 58 ls)] [.c (.sl 0 ls.length), iv k] [some (.row true 58 (mkRows [.i .i64, .i .i64] ls.length k))] (iv (k + ls.length * 2)) :=
  FC.sem (C := c_mkCells ls k) (m := 25) Try.func18 (by kernel_rfl) rfl rfl (by kernel_rfl) rfl rfl h
theorem mkCells_l (ls : List (List DV)) (k : Int) (hl : ls.length ≤ 1048576) (hk : 0 < k) (hk1 : k ≤ 1000000000) : ∀ (m : Nat) (i q : Int) (ms : List (List DV)) (n : Nat), m = (ls.length - i).toNat → 0 ≤ i → i ≤ ls.length → q = k + i * 2 → n = ms.length → ms.length = ls.length → Shp Try.prog 58 ms → (∀ j : Nat, j < i.toNat → ms[j]? = some (mkCells [.i .i64, .i .i64] (k + j * 2))) →
    (c_mkCells ls k).At [1, 0, 1, 0] ⟨mkS 27 [(0, .c (.sl 0 n)), (1, iv q), (5, iv i)], [some (.row true 58 ms)]⟩ := by
  intro m
  induction m using Nat.strongRecOn with
  | _ m ih =>
    intro i q ms n hm h0 hn hq hn2 hlen hS hms
    refine FC.loopB (by kernel_rfl) (by kernel_rfl) 100 (X := brP (decide (i < (↑n : Int))) ((0 : Int) ≤ i ∧ (n = List.length ms ∧ Int.toNat i < n) ∧ El Try.prog (58 : Nat) ms (Int.toNat i) ∧ IntKind.wrap IntKind.i64 (q + (1 : Int)) = q + (1 : Int) ∧ (0 : Int) ≤ i ∧ (n = List.length (List.set ms (Int.toNat i) [DV.s (Value.int IntKind.i64 q), DV.s (Value.int IntKind.i64 (cI ms (Int.toNat i) (1 : Nat)))]) ∧ Int.toNat i < n) ∧ El Try.prog (58 : Nat) (List.set ms (Int.toNat i) [DV.s (Value.int IntKind.i64 q), DV.s (Value.int IntKind.i64 (cI ms (Int.toNat i) (1 : Nat)))]) (Int.toNat i) ∧ IntKind.wrap IntKind.i64 (q + (1 : Int) + (1 : Int)) = q + (1 : Int) + (1 : Int) ∧ IntKind.wrap IntKind.i64 (i + (1 : Int)) = i + (1 : Int) ∧ FC.At (c_mkCells ls k) [(1 : Nat), (0 : Nat), (1 : Nat), (0 : Nat)] { sl := mkS (27 : Nat) [((0 : Nat), AV.c (CV.sl (0 : Nat) n)), ((1 : Nat), AV.c (CV.v (Value.int IntKind.i64 (q + (1 : Int) + (1 : Int))))), ((5 : Nat), AV.c (CV.v (Value.int IntKind.i64 (i + (1 : Int)))))], hp := [some (AB.row true (58 : Nat) (List.set (List.set ms (Int.toNat i) [DV.s (Value.int IntKind.i64 q), DV.s (Value.int IntKind.i64 (cI ms (Int.toNat i) (1 : Nat)))]) (Int.toNat i) [DV.s (Value.int IntKind.i64 (cI (List.set ms (Int.toNat i) [DV.s (Value.int IntKind.i64 q), DV.s (Value.int IntKind.i64 (cI ms (Int.toNat i) (1 : Nat)))]) (Int.toNat i) (0 : Nat))), DV.s (Value.int IntKind.i64 (q + (1 : Int)))]))] }) (FC.Fin (c_mkCells ls k) (AV.c (CV.v (Value.int IntKind.i64 q))) [some (AB.row true (58 : Nat) ms)])) (by kernel_rfl) ?_
    repeat' (first | (with_reducible refine And.intro ?_ ?_) | refine brN ?_ | refine brD (fun _ => ?_) (fun _ => ?_) | refine brE (fun _ => ?_) (fun _ => ?_) | refine brEn (fun _ => ?_) (fun _ => ?_) | refine brEb (fun _ => ?_) (fun _ => ?_) | refine brS (fun _ => ?_) (fun _ => ?_) | refine brI (fun _ => ?_) (fun _ => ?_) | omega | exact wrI (by omega) (by omega) | exact hS.el (by omega) | exact (hS.set (by kernel_rfl)).el (by simp only [List.length_set]; omega) | (simp only [List.length_set]; omega) | fail)
    · have hi : i.toNat < ms.length := by omega
      simp only [cI_set hi, cS_set hi, List.length_set, hi, List.set_set]
      refine ih _ (by omega) (i + 1) _ _ n rfl (by omega) (by omega) (by omega) (by simp; omega) (by simp; omega) (hS.set (by kernel_rfl)) (fun j hj => ?_)
      exact mk_step (sh := [.i .i64, .i .i64]) hms h0 hi hq hj
    · have e := mk_all (sh := [.i .i64, .i .i64]) (n := ls.length) hms hlen (by omega)
      subst hn2
      refine finV (iv_eq (by omega)) ?_
      rw [e]; rfl
theorem mkCells_sem (ls : List (List DV)) (k : Int) (hS : Shp Try.prog 58 ls) (hl : ls.length ≤ 1048576) (hk : 0 < k) (hk1 : k ≤ 1000000000) : FunSem Try.prog 18 [some (.row true 58 ls)] [.c (.sl 0 ls.length), iv k] [some (.row true 58 (mkRows [.i .i64, .i .i64] ls.length k))] (iv (k + ls.length * 2)) := by
  refine mkCells_of ls k ?_
  refine FC.ev (by kernel_rfl) 100 (X := FC.At (c_mkCells ls k) [(1 : Nat), (0 : Nat), (1 : Nat), (0 : Nat)] { sl := mkS (27 : Nat) [((0 : Nat), AV.c (CV.sl (0 : Nat) (List.length ls))), ((1 : Nat), AV.c (CV.v (Value.int IntKind.i64 k))), ((5 : Nat), AV.c (CV.v (Value.int IntKind.i64 (0 : Int))))], hp := [some (AB.row true (58 : Nat) ls)] }) (by kernel_rfl) ?_
  repeat' (first | (with_reducible refine And.intro ?_ ?_) | refine brN ?_ | refine brD (fun _ => ?_) (fun _ => ?_) | refine brE (fun _ => ?_) (fun _ => ?_) | refine brEn (fun _ => ?_) (fun _ => ?_) | refine brEb (fun _ => ?_) (fun _ => ?_) | refine brS (fun _ => ?_) (fun _ => ?_) | refine brI (fun _ => ?_) (fun _ => ?_) | omega | exact wrI (by omega) (by omega) | fail)
  exact mkCells_l ls k hl hk hk1 _ 0 k ls _ rfl (by omega) (by omega) (by omega) rfl rfl hS (fun j hj => by omega)
noncomputable def e_mkCells : CE Try.prog := CE.mut 18 [.c (.h 58), .c (.r .x)] (fun
  | [.c (.sl 0 n), .c (.v (.int .i64 k))], [some (.row true 58 ls)] => some ([n = ls.length, Shp Try.prog 58 ls, ls.length ≤ 1048576, 0 < k, k ≤ 1000000000], iv (k + ls.length * 2), [some (.row true 58 (mkRows [.i .i64, .i .i64] ls.length k))])
  | _, _ => none) (by
  intro ys hp0 q v hp1 h hq
  split at h <;> cases h
  exact (by have e := hq; simp only [andL] at e; obtain ⟨rfl, h1, h2, h3, h4, -⟩ := e; exact mkCells_sem _ _ h1 h2 h3 h4))
theorem mkCells_shp (n : Nat) : ∀ (k : Int), Shp Try.prog 58 (mkRows [.i .i64, .i .i64] n k) := by
  induction n with
  | zero => intro k; exact Shp.nil
  | succ n ih => intro k cs hc; rcases List.mem_cons.1 hc with rfl | hc
                 · kernel_rfl
                 · exact ih _ cs hc
noncomputable def c_hdCells (ls : List (List DV)) (k : Int) : FC := mkC Try.prog Try.f19 [0, 1, 4, 5] [0, 1, 4, 5, 9, 18, 27] [([1, 0, 1, 0], [0, 1, 5])] [] 0 [] (iv (k + ls.length * 2))
theorem hdCells_of (ls : List (List DV)) (k : Int) (h : (c_hdCells ls k).At [] ⟨mkS 31 [(0, .c (.ro 58 ls)), (1, iv k)], []⟩) : FunSem Try.prog 19 [] [.c (.ro 58 ls), iv k] [] (iv (k + ls.length * 2)) :=
  FC.sem (C := c_hdCells ls k) (m := 29) Try.func19 (by kernel_rfl) rfl rfl (by kernel_rfl) rfl rfl h
theorem hdCells_l (ls : List (List DV)) (k : Int) (hS : Shp Try.prog 58 ls) (hl : ls.length ≤ 1048576) (hk : 0 < k) (hk1 : k ≤ 1000000000) (hls : ls = mkRows [.i .i64, .i .i64] ls.length k) : ∀ (m : Nat) (i q : Int), m = (ls.length - i).toNat → 0 ≤ i → i ≤ ls.length → q = k + i * 2 →
    (c_hdCells ls k).At [1, 0, 1, 0] ⟨mkS 31 [(0, .c (.ro 58 ls)), (1, iv q), (5, iv i)], []⟩ := by
  intro m
  induction m using Nat.strongRecOn with
  | _ m ih =>
    intro i q hm h0 hn hq
    refine FC.loopB (by kernel_rfl) (by kernel_rfl) 100 (X := brP (decide (i < (↑(List.length ls) : Int))) ((0 : Int) ≤ i ∧ El Try.prog (58 : Nat) ls (Int.toNat i) ∧ brP (cI ls (Int.toNat i) (0 : Nat) != q) (FC.Fin (c_hdCells ls k) (AV.c (CV.v (Value.int IntKind.i64 (-1 : Int)))) []) (IntKind.wrap IntKind.i64 (q + (1 : Int)) = q + (1 : Int) ∧ (0 : Int) ≤ i ∧ El Try.prog (58 : Nat) ls (Int.toNat i) ∧ brP (cI ls (Int.toNat i) (1 : Nat) != q + (1 : Int)) (FC.Fin (c_hdCells ls k) (AV.c (CV.v (Value.int IntKind.i64 (-1 : Int)))) []) (IntKind.wrap IntKind.i64 (q + (1 : Int) + (1 : Int)) = q + (1 : Int) + (1 : Int) ∧ IntKind.wrap IntKind.i64 (i + (1 : Int)) = i + (1 : Int) ∧ FC.At (c_hdCells ls k) [(1 : Nat), (0 : Nat), (1 : Nat), (0 : Nat)] { sl := mkS (31 : Nat) [((0 : Nat), AV.c (CV.ro (58 : Nat) ls)), ((1 : Nat), AV.c (CV.v (Value.int IntKind.i64 (q + (1 : Int) + (1 : Int))))), ((5 : Nat), AV.c (CV.v (Value.int IntKind.i64 (i + (1 : Int)))))], hp := [] }))) (FC.Fin (c_hdCells ls k) (AV.c (CV.v (Value.int IntKind.i64 q))) [])) (by kernel_rfl) ?_
    have hc : i < ls.length → ls[i.toNat]? = some (mkCells [.i .i64, .i .i64] q) := fun h => by
      have e := mkRows_get [.i .i64, .i .i64] ls.length k i.toNat (by omega)
      rw [← hls, Int.toNat_of_nonneg h0] at e
      rw [e, hq]; rfl
    have v0 : i < ls.length → cI ls i.toNat 0 = q := fun h => by simp [cI, cD, List.getD_eq_getElem?_getD, hc h, mkCells, dI]
    have v1 : i < ls.length → cI ls i.toNat 1 = (q + 1) := fun h => by simp [cI, cD, List.getD_eq_getElem?_getD, hc h, mkCells, dI]
    repeat' (first | (with_reducible refine And.intro ?_ ?_) | refine brN ?_ | refine brD (fun _ => ?_) (fun _ => ?_) | refine brE (fun _ => ?_) (fun _ => ?_) | refine brEn (fun _ => ?_) (fun _ => ?_) | refine brEb (fun _ => ?_) (fun _ => ?_) | refine brS (fun _ => ?_) (fun _ => ?_) | refine brI (fun _ => ?_) (fun _ => ?_) | omega | exact wrI (by omega) (by omega) | exact hS.el (by omega) | exact absurd (v0 ‹_›) ‹_› | exact absurd (v1 ‹_›) ‹_› | exact ih _ (by omega) (i + 1) _ rfl (by omega) (by omega) (by omega) | exact finV (iv_eq (by omega)) rfl | fail)
theorem hdCells_sem (ls : List (List DV)) (k : Int) (hS : Shp Try.prog 58 ls) (hl : ls.length ≤ 1048576) (hk : 0 < k) (hk1 : k ≤ 1000000000) (hls : ls = mkRows [.i .i64, .i .i64] ls.length k) : FunSem Try.prog 19 [] [.c (.ro 58 ls), iv k] [] (iv (k + ls.length * 2)) := by
  refine hdCells_of ls k ?_
  refine FC.ev (by kernel_rfl) 100 (X := FC.At (c_hdCells ls k) [(1 : Nat), (0 : Nat), (1 : Nat), (0 : Nat)] { sl := mkS (31 : Nat) [((0 : Nat), AV.c (CV.ro (58 : Nat) ls)), ((1 : Nat), AV.c (CV.v (Value.int IntKind.i64 k))), ((5 : Nat), AV.c (CV.v (Value.int IntKind.i64 (0 : Int))))], hp := [] }) (by kernel_rfl) ?_
  repeat' (first | (with_reducible refine And.intro ?_ ?_) | refine brN ?_ | refine brD (fun _ => ?_) (fun _ => ?_) | refine brE (fun _ => ?_) (fun _ => ?_) | refine brEn (fun _ => ?_) (fun _ => ?_) | refine brEb (fun _ => ?_) (fun _ => ?_) | refine brS (fun _ => ?_) (fun _ => ?_) | refine brI (fun _ => ?_) (fun _ => ?_) | omega | exact wrI (by omega) (by omega) | fail)
  exact hdCells_l ls k hS hl hk hk1 hls _ 0 k rfl (by omega) (by omega) (by omega)
noncomputable def e_hdCells : CE Try.prog := CE.pure 19 [.c (.l 58), .c .x] (fun
  | [.c (.ro 58 ls), .c (.v (.int .i64 k))] => some ([Shp Try.prog 58 ls, ls.length ≤ 1048576, 0 < k, k ≤ 1000000000, ls = mkRows [.i .i64, .i .i64] ls.length k], iv (k + ls.length * 2), [])
  | _ => none) (by
  intro ys q v hp1 h hq
  split at h <;> cases h
  exact hdCells_sem _ _ hq.1 hq.2.1 hq.2.2.1 hq.2.2.2.1 hq.2.2.2.2.1)
end Go.Proofs.Ytekdfddodabfcaa
/- Contracts: points, parts of a way. -/
namespace Go.Proofs.Ytekdfddodabfcaa
open Go.RowKit
set_option linter.unusedVariables false
set_option linter.unusedSectionVars false
set_option linter.unusedSimpArgs false
/-- The first point of a name. -/
def fpt (ps : List (List DV)) (s : ByteArray) : Nat → Nat → Option Nat
  | 0, _ => none
  | f + 1, i => if (cS ps i 0).toList == s.toList then some i else fpt ps s f (i + 1)
def ptO (ps : List (List DV)) (s : ByteArray) : Option Nat := fpt ps s ps.length 0
def ptI (ps : List (List DV)) (s : ByteArray) : Int := match ptO ps s with | some i => i | none => -1
def ptX (ps : List (List DV)) (s : ByteArray) : Int := match ptO ps s with | some i => cI ps i 1 | none => 0
def ptY (ps : List (List DV)) (s : ByteArray) : Int := match ptO ps s with | some i => cI ps i 2 | none => 0
def ptN (ps : List (List DV)) (s : ByteArray) : ByteArray := match ptO ps s with | some i => cS ps i 0 | none => ⟨#[]⟩
theorem fpt_step {ps : List (List DV)} {s : ByteArray} {i : Nat} (hi : i < ps.length) (h : fpt ps s (ps.length - i) i = ptO ps s) : (cS ps i 0 = s → ptO ps s = some i) ∧ (cS ps i 0 ≠ s → fpt ps s (ps.length - (i + 1)) (i + 1) = ptO ps s) := by
  rw [show ps.length - i = (ps.length - (i + 1)) + 1 by omega] at h
  unfold fpt at h
  refine ⟨fun e => ?_, fun e => ?_⟩
  · subst e; rw [if_pos (by simp)] at h; exact h.symm
  · rw [if_neg] at h
    · exact h
    · intro h'
      have h' : (cS ps i 0).toList = s.toList := by simpa using h'
      have e1 : ∀ s : ByteArray, s.toList = s.data.toList := fun s => ByteArray.toList_eq s
      rw [e1, e1] at h'
      have h2 : (cS ps i 0).data = s.data := Array.ext' h'
      apply e
      cases hc : cS ps i 0; cases s; simp_all
theorem fpt_end {ps : List (List DV)} {s : ByteArray} {i : Nat} (hi : ps.length ≤ i) (h : fpt ps s (ps.length - i) i = ptO ps s) : ptO ps s = none := by
  rw [show ps.length - i = 0 by omega] at h
  exact h.symm
theorem fpt_lt {ps : List (List DV)} {s : ByteArray} : ∀ (f i j : Nat), fpt ps s f i = some j → j < i + f := by
  intro f
  induction f with
  | zero => intro i j h; cases h
  | succ f ih =>
    intro i j h
    unfold fpt at h
    split at h
    · cases h; omega
    · have := ih (i + 1) j h; omega
theorem ptO_lt {ps : List (List DV)} {s : ByteArray} {j : Nat} (h : ptO ps s = some j) : j < ps.length := by have := fpt_lt _ _ _ h; omega
theorem flo {a b : Int} (hb : 0 < b) : (a.tmod b < 0 → a.tdiv b - 1 = a / b) ∧ (¬ a.tmod b < 0 → a.tdiv b = a / b) := by
  have e := Int.mul_tdiv_add_tmod a b
  have h1 : a.tmod b < b := Int.tmod_lt_of_pos a hb
  have h2 : -b < a.tmod b := by
    have := Int.tmod_lt_of_pos (-a) hb
    rw [Int.neg_tmod] at this
    omega
  refine ⟨fun h => ?_, fun h => ?_⟩
  · exact (((Int.ediv_emod_unique hb).2 ⟨by rw [Int.mul_sub, Int.mul_one]; omega, by omega, by omega⟩ : a / b = a.tdiv b - 1 ∧ a % b = a.tmod b + b).1).symm
  · exact (((Int.ediv_emod_unique hb).2 ⟨by omega, by omega, by omega⟩ : a / b = a.tdiv b ∧ a % b = a.tmod b).1).symm
theorem mulB {a b : Int} {M N : Nat} (ha : a.natAbs ≤ M) (hb : b.natAbs ≤ N) : (a * b).natAbs ≤ M * N := by
  rw [Int.natAbs_mul]; exact Nat.mul_le_mul ha hb
theorem tdB {a b : Int} : (a.tdiv b).natAbs ≤ a.natAbs := by
  rw [Int.natAbs_tdiv]; exact Nat.div_le_self _ _
noncomputable def c_l1P (ks ps : List (List DV)) (s : ByteArray) : FC := mkC Try.prog Try.f50 [0, 1, 2, 4, 5] [0, 1, 2, 4, 5, 10, 20] [([1, 0, 1, 0], [1, 2, 5])] [] 0 [] (iv (ptI ps s))
theorem l1P_of (ks ps : List (List DV)) (s : ByteArray) (h : (c_l1P ks ps s).At [] ⟨mkS 22 [(0, .ag [.ro 50 ks, .ro 53 ps]), (1, sv s)], []⟩) : FunSem Try.prog 50 [] [.ag [.ro 50 ks, .ro 53 ps], sv s] [] (iv (ptI ps s)) :=
  FC.sem (C := c_l1P ks ps s) (m := 20) Try.func50 (by kernel_rfl) rfl rfl (by kernel_rfl) rfl rfl h
theorem l1P_l (ks ps : List (List DV)) (s : ByteArray) (hp : Shp Try.prog 53 ps) (hl : ps.length ≤ 1048576) : ∀ (m : Nat) (i : Int), m = (ps.length - i).toNat → 0 ≤ i → i ≤ ps.length → fpt ps s (ps.length - i.toNat) i.toNat = ptO ps s →
    (c_l1P ks ps s).At [1, 0, 1, 0] ⟨mkS 22 [(1, sv s), (2, .c (.pt 0 0)), (5, iv i)], [some (.var 31 [.ro 50 ks, .ro 53 ps])]⟩ := by
  intro m
  induction m using Nat.strongRecOn with
  | _ m ih =>
    intro i hm h0 hn hf
    refine FC.loopB (by kernel_rfl) (by kernel_rfl) 100 (X := brP (decide (i < (↑(List.length ps) : Int))) ((0 : Int) ≤ i ∧ El Try.prog (53 : Nat) ps (Int.toNat i) ∧ brP (ByteArray.toList (cS ps (Int.toNat i) (0 : Nat)) == ByteArray.toList s) (FC.Fin (c_l1P ks ps s) (AV.c (CV.v (Value.int IntKind.i64 i))) []) (IntKind.wrap IntKind.i64 (i + (1 : Int)) = i + (1 : Int) ∧ FC.At (c_l1P ks ps s) [(1 : Nat), (0 : Nat), (1 : Nat), (0 : Nat)] { sl := mkS (22 : Nat) [((1 : Nat), AV.c (CV.v (Value.string s))), ((2 : Nat), AV.c (CV.pt (0 : Nat) (0 : Nat))), ((5 : Nat), AV.c (CV.v (Value.int IntKind.i64 (i + (1 : Int)))))], hp := [some (AB.var (31 : Nat) [CV.ro (50 : Nat) ks, CV.ro (53 : Nat) ps])] })) (FC.Fin (c_l1P ks ps s) (AV.c (CV.v (Value.int IntKind.i64 (-1 : Int)))) [])) (by kernel_rfl) ?_
    have st : i < ps.length → _ := fun h => fpt_step (s := s) (i := i.toNat) (by omega) hf
    have r1 : i < ps.length → cS ps i.toNat 0 = s → i = ptI ps s := fun h e => by unfold ptI; rw [(st h).1 e]; show i = ((i.toNat : Nat) : Int); omega
    have r2 : ¬ i < ps.length → -1 = ptI ps s := fun h => by unfold ptI; rw [fpt_end (by omega) hf]
    have r3 : i < ps.length → cS ps i.toNat 0 ≠ s → fpt ps s (ps.length - (i + 1).toNat) (i + 1).toNat = ptO ps s := fun h e => by rw [show (i + 1).toNat = i.toNat + 1 by omega]; exact (st h).2 e
    clear st
    repeat' (first | (with_reducible refine And.intro ?_ ?_) | refine brN ?_ | refine brD (fun _ => ?_) (fun _ => ?_) | refine brE (fun _ => ?_) (fun _ => ?_) | refine brEn (fun _ => ?_) (fun _ => ?_) | refine brEb (fun _ => ?_) (fun _ => ?_) | refine brS (fun _ => ?_) (fun _ => ?_) | refine brI (fun _ => ?_) (fun _ => ?_) | omega | exact wrI (by omega) (by omega) | exact hp.el (by omega) | exact finV (iv_eq (r1 ‹_› ‹_›)) rfl | exact finV (iv_eq (r2 ‹_›)) rfl | exact ih _ (by omega) (i + 1) rfl (by omega) (by omega) (r3 ‹_› ‹_›) | fail)
theorem l1P_sem (ks ps : List (List DV)) (s : ByteArray) (hp : Shp Try.prog 53 ps) (hl : ps.length ≤ 1048576) : FunSem Try.prog 50 [] [.ag [.ro 50 ks, .ro 53 ps], sv s] [] (iv (ptI ps s)) := by
  refine l1P_of ks ps s ?_
  refine FC.ev (by kernel_rfl) 100 (X := FC.At (c_l1P ks ps s) [(1 : Nat), (0 : Nat), (1 : Nat), (0 : Nat)] { sl := mkS (22 : Nat) [((1 : Nat), AV.c (CV.v (Value.string s))), ((2 : Nat), AV.c (CV.pt (0 : Nat) (0 : Nat))), ((5 : Nat), AV.c (CV.v (Value.int IntKind.i64 (0 : Int))))], hp := [some (AB.var (31 : Nat) [CV.ro (50 : Nat) ks, CV.ro (53 : Nat) ps])] }) (by kernel_rfl) ?_
  exact l1P_l ks ps s hp hl _ 0 rfl (by omega) (by omega) rfl
noncomputable def e_l1P : CE Try.prog := CE.pure 50 [.ag [.l 50, .l 53], .c .x] (fun
  | [.ag [.ro 50 ks, .ro 53 ps], .c (.v (.string s))] => some ([Shp Try.prog 53 ps, ps.length ≤ 1048576], iv (ptI ps s), [])
  | _ => none) (by
  intro ys q v hp1 h hq
  split at h <;> cases h
  exact l1P_sem _ _ _ hq.1 hq.2.1)
noncomputable def c_pt (ks ps : List (List DV)) (s : ByteArray) : FC := mkC Try.prog Try.f34 [0, 1, 2, 4, 5, 7, 9, 10, 11] [0, 1, 2, 4, 5, 7, 9, 10, 11, 12, 18] [([1, 0, 1, 0], [1, 4, 9, 10, 11])] [] 0 [] (.tu [.inr [.v (.string (ptN ps s)), .v (.int .i64 (ptX ps s)), .v (.int .i64 (ptY ps s))], .inl (.v (.bool (ptO ps s).isSome))])
theorem pt_of (ks ps : List (List DV)) (s : ByteArray) (h : (c_pt ks ps s).At [] ⟨mkS 22 [(0, .ag [.ro 50 ks, .ro 53 ps]), (1, sv s)], []⟩) : FunSem Try.prog 34 [] [.ag [.ro 50 ks, .ro 53 ps], sv s] [] (.tu [.inr [.v (.string (ptN ps s)), .v (.int .i64 (ptX ps s)), .v (.int .i64 (ptY ps s))], .inl (.v (.bool (ptO ps s).isSome))]) :=
  FC.sem (C := c_pt ks ps s) (m := 20) Try.func34 (by kernel_rfl) rfl rfl (by kernel_rfl) rfl rfl h
theorem pt_l (ks ps : List (List DV)) (s : ByteArray) (hp : Shp Try.prog 53 ps) (hl : ps.length ≤ 1048576) : ∀ (m : Nat) (i : Int) (nm : ByteArray) (x y : Int), m = (ps.length - i).toNat → 0 ≤ i → i ≤ ps.length → fpt ps s (ps.length - i.toNat) i.toNat = ptO ps s →
    (c_pt ks ps s).At [1, 0, 1, 0] ⟨mkS 22 [(1, sv s), (4, .c (.pt 0 0)), (9, .c (.ro 53 ps)), (10, iv ps.length), (11, iv i)], [some (.var 53 [.v (.string nm), .v (.int .i64 x), .v (.int .i64 y)])]⟩ := by
  intro m
  induction m using Nat.strongRecOn with
  | _ m ih =>
    intro i nm x y hm h0 hn hf
    refine FC.loopB (by kernel_rfl) (by kernel_rfl) 100 (X := brP (decide (i < (↑(List.length ps) : Int))) ((0 : Int) ≤ i ∧ El Try.prog (53 : Nat) ps (Int.toNat i) ∧ brP (ByteArray.toList (cS ps (Int.toNat i) (0 : Nat)) == ByteArray.toList s) (FC.Fin (c_pt ks ps s) (AV.tu [Sum.inr [CV.v (Value.string (cS ps (Int.toNat i) (0 : Nat))), CV.v (Value.int IntKind.i64 (cI ps (Int.toNat i) (1 : Nat))), CV.v (Value.int IntKind.i64 (cI ps (Int.toNat i) (2 : Nat)))], Sum.inl (CV.v (Value.bool true))]) []) (IntKind.wrap IntKind.i64 (i + (1 : Int)) = i + (1 : Int) ∧ FC.At (c_pt ks ps s) [(1 : Nat), (0 : Nat), (1 : Nat), (0 : Nat)] { sl := mkS (22 : Nat) [((1 : Nat), AV.c (CV.v (Value.string s))), ((4 : Nat), AV.c (CV.pt (0 : Nat) (0 : Nat))), ((9 : Nat), AV.c (CV.ro (53 : Nat) ps)), ((10 : Nat), AV.c (CV.v (Value.int IntKind.i64 (↑(List.length ps) : Int)))), ((11 : Nat), AV.c (CV.v (Value.int IntKind.i64 (i + (1 : Int)))))], hp := [some (AB.var (53 : Nat) [CV.v (Value.string nm), CV.v (Value.int IntKind.i64 x), CV.v (Value.int IntKind.i64 y)])] })) (FC.Fin (c_pt ks ps s) (AV.tu [Sum.inr [CV.v (Value.string { data := #[] }), CV.v (Value.int IntKind.i64 (0 : Int)), CV.v (Value.int IntKind.i64 (0 : Int))], Sum.inl (CV.v (Value.bool false))]) [])) (by kernel_rfl) ?_
    have st : i < ps.length → _ := fun h => fpt_step (s := s) (i := i.toNat) (by omega) hf
    have r1 : i < ps.length → cS ps i.toNat 0 = s → ptO ps s = some i.toNat := fun h e => (st h).1 e
    have r2 : ¬ i < ps.length → ptO ps s = none := fun h => fpt_end (by omega) hf
    have r3 : i < ps.length → cS ps i.toNat 0 ≠ s → fpt ps s (ps.length - (i + 1).toNat) (i + 1).toNat = ptO ps s := fun h e => by rw [show (i + 1).toNat = i.toNat + 1 by omega]; exact (st h).2 e
    clear st
    repeat' (first | (with_reducible refine And.intro ?_ ?_) | refine brN ?_ | refine brD (fun _ => ?_) (fun _ => ?_) | refine brE (fun _ => ?_) (fun _ => ?_) | refine brEn (fun _ => ?_) (fun _ => ?_) | refine brEb (fun _ => ?_) (fun _ => ?_) | refine brS (fun _ => ?_) (fun _ => ?_) | refine brI (fun _ => ?_) (fun _ => ?_) | omega | exact wrI (by omega) (by omega) | exact hp.el (by omega) | exact finV (by show _ = AV.tu _; unfold ptN ptX ptY; rw [r1 ‹_› ‹_›]; rfl) rfl | exact finV (by show _ = AV.tu _; unfold ptN ptX ptY; rw [r2 ‹_›]; rfl) rfl | exact ih _ (by omega) (i + 1) _ _ _ rfl (by omega) (by omega) (r3 ‹_› ‹_›) | fail)
theorem pt_sem (ks ps : List (List DV)) (s : ByteArray) (hp : Shp Try.prog 53 ps) (hl : ps.length ≤ 1048576) : FunSem Try.prog 34 [] [.ag [.ro 50 ks, .ro 53 ps], sv s] [] (.tu [.inr [.v (.string (ptN ps s)), .v (.int .i64 (ptX ps s)), .v (.int .i64 (ptY ps s))], .inl (.v (.bool (ptO ps s).isSome))]) := by
  refine pt_of ks ps s ?_
  refine FC.ev (by kernel_rfl) 100 (X := FC.At (c_pt ks ps s) [(1 : Nat), (0 : Nat), (1 : Nat), (0 : Nat)] { sl := mkS (22 : Nat) [((1 : Nat), AV.c (CV.v (Value.string s))), ((4 : Nat), AV.c (CV.pt (0 : Nat) (0 : Nat))), ((9 : Nat), AV.c (CV.ro (53 : Nat) ps)), ((10 : Nat), AV.c (CV.v (Value.int IntKind.i64 (↑(List.length ps) : Int)))), ((11 : Nat), AV.c (CV.v (Value.int IntKind.i64 (0 : Int))))], hp := [some (AB.var (53 : Nat) [CV.v (Value.string { data := #[] }), CV.v (Value.int IntKind.i64 (0 : Int)), CV.v (Value.int IntKind.i64 (0 : Int))])] }) (by kernel_rfl) ?_
  exact pt_l ks ps s hp hl _ 0 _ _ _ rfl (by omega) (by omega) rfl
noncomputable def e_pt : CE Try.prog := CE.pure 34 [.ag [.l 50, .l 53], .c .x] (fun
  | [.ag [.ro 50 ks, .ro 53 ps], .c (.v (.string s))] => some ([Shp Try.prog 53 ps, ps.length ≤ 1048576], .tu [.inr [.v (.string (ptN ps s)), .v (.int .i64 (ptX ps s)), .v (.int .i64 (ptY ps s))], .inl (.v (.bool (ptO ps s).isSome))], [])
  | _ => none) (by
  intro ys q v hp1 h hq
  split at h <;> cases h
  exact pt_sem _ _ _ hq.1 hq.2.1)
noncomputable def c_mx (a b : Int) : FC := mkC Try.prog Try.f51 [0, 1, 4] [0, 1, 4, 7] [] [] 0 [] (iv (max a b))
theorem mx_of (a b : Int) (h : (c_mx a b).At [] ⟨mkS 10 [(0, iv a), (1, iv b)], []⟩) : FunSem Try.prog 51 [] [iv a, iv b] [] (iv (max a b)) :=
  FC.sem (C := c_mx a b) (m := 8) Try.func51 (by kernel_rfl) rfl rfl (by kernel_rfl) rfl rfl h
theorem mx_sem (a b : Int) : FunSem Try.prog 51 [] [iv a, iv b] [] (iv (max a b)) := by
  refine mx_of a b ?_
  refine FC.ev (by kernel_rfl) 100 (X := brP (decide (a > b)) (FC.Fin (c_mx a b) (AV.c (CV.v (Value.int IntKind.i64 a))) []) (FC.Fin (c_mx a b) (AV.c (CV.v (Value.int IntKind.i64 b))) [])) (by kernel_rfl) ?_
  repeat' (first | (with_reducible refine And.intro ?_ ?_) | refine brN ?_ | refine brD (fun _ => ?_) (fun _ => ?_) | refine brE (fun _ => ?_) (fun _ => ?_) | refine brEn (fun _ => ?_) (fun _ => ?_) | refine brEb (fun _ => ?_) (fun _ => ?_) | refine brS (fun _ => ?_) (fun _ => ?_) | refine brI (fun _ => ?_) (fun _ => ?_) | omega | exact wrI (by omega) (by omega) | exact finV (iv_eq (by omega)) rfl | fail)
noncomputable def e_mx : CE Try.prog := CE.pure 51 [.c .x, .c .x] (fun
  | [.c (.v (.int .i64 a)), .c (.v (.int .i64 b))] => some ([], iv (max a b), [])
  | _ => none) (by
  intro ys q v hp1 h hq
  split at h <;> cases h
  exact mx_sem _ _)
noncomputable def c_ab (a : Int) : FC := mkC Try.prog Try.f52 [0, 2] [0, 2, 4] [] [] 0 [] (iv (a.natAbs : Int))
theorem ab_of (a : Int) (h : (c_ab a).At [] ⟨mkS 8 [(0, iv a)], []⟩) : FunSem Try.prog 52 [] [iv a] [] (iv (a.natAbs : Int)) :=
  FC.sem (C := c_ab a) (m := 7) Try.func52 (by kernel_rfl) rfl rfl (by kernel_rfl) rfl rfl h
theorem ab_sem (a : Int) (h0 : -1000 ≤ a) (h1 : a ≤ 1000) : FunSem Try.prog 52 [] [iv a] [] (iv (a.natAbs : Int)) := by
  refine ab_of a ?_
  refine FC.ev (by kernel_rfl) 100 (X := brP (decide (a < (0 : Int))) (IntKind.wrap IntKind.i64 ((0 : Int) - a) = -a ∧ FC.Fin (c_ab a) (AV.c (CV.v (Value.int IntKind.i64 (-a)))) []) (FC.Fin (c_ab a) (AV.c (CV.v (Value.int IntKind.i64 a))) [])) (by kernel_rfl) ?_
  repeat' (first | (with_reducible refine And.intro ?_ ?_) | refine brN ?_ | refine brD (fun _ => ?_) (fun _ => ?_) | refine brE (fun _ => ?_) (fun _ => ?_) | refine brEn (fun _ => ?_) (fun _ => ?_) | refine brEb (fun _ => ?_) (fun _ => ?_) | refine brS (fun _ => ?_) (fun _ => ?_) | refine brI (fun _ => ?_) (fun _ => ?_) | omega | exact wrI (by omega) (by omega) | exact (wrI (by omega) (by omega)).trans (by omega) | exact finV (iv_eq (by omega)) rfl | fail)
noncomputable def e_ab : CE Try.prog := CE.pure 52 [.c .x] (fun
  | [.c (.v (.int .i64 a))] => some ([-1000 ≤ a, a ≤ 1000], iv (a.natAbs : Int), [])
  | _ => none) (by
  intro ys q v hp1 h hq
  split at h <;> cases h
  exact ab_sem _ hq.1 hq.2.1)
noncomputable def c_prt (d k n : Int) : FC := mkC Try.prog Try.f53 [0, 1, 2, 6, 7, 8] [0, 1, 2, 6, 7, 8, 28] [] [] 0 [] (iv ((2 * k * d + n) / (2 * n)))
theorem prt_of (d k n : Int) (h : (c_prt d k n).At [] ⟨mkS 32 [(0, iv d), (1, iv k), (2, iv n)], []⟩) : FunSem Try.prog 53 [] [iv d, iv k, iv n] [] (iv ((2 * k * d + n) / (2 * n))) :=
  FC.sem (C := c_prt d k n) (m := 29) Try.func53 (by kernel_rfl) rfl rfl (by kernel_rfl) rfl rfl h
theorem prt_sem (d k n : Int) (hd : d.natAbs ≤ 15) (hk : k.natAbs ≤ 15) (hn : 0 < n) (hn1 : n ≤ 15) : FunSem Try.prog 53 [] [iv d, iv k, iv n] [] (iv ((2 * k * d + n) / (2 * n))) := by
  refine prt_of d k n ?_
  refine FC.ev (by kernel_rfl) 100 (X := IntKind.wrap IntKind.i64 ((2 : Int) * k) = (2 : Int) * k ∧ IntKind.wrap IntKind.i64 ((2 : Int) * k * d) = (2 : Int) * k * d ∧ IntKind.wrap IntKind.i64 ((2 : Int) * k * d + n) = (2 : Int) * k * d + n ∧ IntKind.wrap IntKind.i64 ((2 : Int) * n) = (2 : Int) * n ∧ ((2 : Int) * n ≠ (0 : Int) ∧ IntKind.wrap IntKind.i64 (Int.tdiv ((2 : Int) * k * d + n) ((2 : Int) * n)) = Int.tdiv ((2 : Int) * k * d + n) ((2 : Int) * n)) ∧ brP (decide ((2 : Int) * k * d + n < (0 : Int))) (IntKind.wrap IntKind.i64 (Int.tdiv ((2 : Int) * k * d + n) ((2 : Int) * n) * (2 : Int)) = Int.tdiv ((2 : Int) * k * d + n) ((2 : Int) * n) * (2 : Int) ∧ IntKind.wrap IntKind.i64 (Int.tdiv ((2 : Int) * k * d + n) ((2 : Int) * n) * (2 : Int) * n) = Int.tdiv ((2 : Int) * k * d + n) ((2 : Int) * n) * (2 : Int) * n ∧ brP (Int.tdiv ((2 : Int) * k * d + n) ((2 : Int) * n) * (2 : Int) * n != (2 : Int) * k * d + n) (IntKind.wrap IntKind.i64 (Int.tdiv ((2 : Int) * k * d + n) ((2 : Int) * n) - (1 : Int)) = Int.tdiv ((2 : Int) * k * d + n) ((2 : Int) * n) - (1 : Int) ∧ FC.Fin (c_prt d k n) (AV.c (CV.v (Value.int IntKind.i64 (Int.tdiv ((2 : Int) * k * d + n) ((2 : Int) * n) - (1 : Int))))) []) (FC.Fin (c_prt d k n) (AV.c (CV.v (Value.int IntKind.i64 (Int.tdiv ((2 : Int) * k * d + n) ((2 : Int) * n))))) [])) (FC.Fin (c_prt d k n) (AV.c (CV.v (Value.int IntKind.i64 (Int.tdiv ((2 : Int) * k * d + n) ((2 : Int) * n))))) [])) (by kernel_rfl) ?_
  have hm : (2 * k * d).natAbs ≤ 30 * 15 := mulB (by omega) hd
  generalize hv : 2 * k * d = v at *
  have hv0 : v.natAbs ≤ 450 := by omega
  have f := flo (a := v + n) (b := 2 * n) (by omega)
  have tb : ((v + n).tdiv (2 * n)).natAbs ≤ (v + n).natAbs := tdB
  have e := Int.mul_tdiv_add_tmod (v + n) (2 * n)
  have e2 : (v + n).tdiv (2 * n) * 2 * n = 2 * n * (v + n).tdiv (2 * n) := by rw [Int.mul_assoc, Int.mul_comm]
  have r1 : (v + n).tmod (2 * n) < 2 * n := Int.tmod_lt_of_pos _ (by omega)
  have r2 : ¬ v + n < 0 → 0 ≤ (v + n).tmod (2 * n) := fun h => Int.tmod_nonneg _ (by omega)
  have r3 : v + n < 0 → (v + n).tmod (2 * n) ≤ 0 := fun h => by
    have := Int.tmod_nonneg (2 * n) (show 0 ≤ -(v + n) by omega)
    rw [Int.neg_tmod] at this
    omega
  have r4 : -(2 * n) < (v + n).tmod (2 * n) := by
    have := Int.tmod_lt_of_pos (-(v + n)) (show 0 < 2 * n by omega)
    rw [Int.neg_tmod] at this
    omega
  rw [e2]
  generalize (v + n).tdiv (2 * n) = q at *
  generalize (v + n).tmod (2 * n) = r at *
  generalize 2 * n * q = w at *
  repeat' (first | (with_reducible refine And.intro ?_ ?_) | refine brN ?_ | refine brD (fun _ => ?_) (fun _ => ?_) | refine brE (fun _ => ?_) (fun _ => ?_) | refine brEn (fun _ => ?_) (fun _ => ?_) | refine brEb (fun _ => ?_) (fun _ => ?_) | refine brS (fun _ => ?_) (fun _ => ?_) | refine brI (fun _ => ?_) (fun _ => ?_) | omega | exact wrI (by omega) (by omega) | exact finV (iv_eq ((f.1 (by omega)).trans (by rw [hv]))) rfl | exact finV (iv_eq ((f.2 (by omega)).trans (by rw [hv]))) rfl | fail)
noncomputable def e_prt : CE Try.prog := CE.pure 53 [.c .x, .c .x, .c .x] (fun
  | [.c (.v (.int .i64 d)), .c (.v (.int .i64 k)), .c (.v (.int .i64 n))] => some ([d.natAbs ≤ 15, k.natAbs ≤ 15, 0 < n, n ≤ 15], iv ((2 * k * d + n) / (2 * n)), [])
  | _ => none) (by
  intro ys q v hp1 h hq
  split at h <;> cases h
  exact prt_sem _ _ _ hq.1 hq.2.1 hq.2.2.1 hq.2.2.2.1)
noncomputable def c_flr (a b : Int) : FC := mkC Try.prog Try.f54 [0, 1, 4, 5] [0, 1, 4, 5, 12] [] [] 0 [] (iv (a / b))
theorem flr_of (a b : Int) (h : (c_flr a b).At [] ⟨mkS 16 [(0, iv a), (1, iv b)], []⟩) : FunSem Try.prog 54 [] [iv a, iv b] [] (iv (a / b)) :=
  FC.sem (C := c_flr a b) (m := 14) Try.func54 (by kernel_rfl) rfl rfl (by kernel_rfl) rfl rfl h
theorem flr_sem (a b : Int) (ha : a.natAbs ≤ 1000000) (hb : 0 < b) : FunSem Try.prog 54 [] [iv a, iv b] [] (iv (a / b)) := by
  refine flr_of a b ?_
  refine FC.ev (by kernel_rfl) 100 (X := (b ≠ (0 : Int) ∧ IntKind.wrap IntKind.i64 (Int.tdiv a b) = Int.tdiv a b) ∧ b ≠ (0 : Int) ∧ brP (decide (Int.tmod a b < (0 : Int))) (IntKind.wrap IntKind.i64 (Int.tdiv a b - (1 : Int)) = Int.tdiv a b - (1 : Int) ∧ FC.Fin (c_flr a b) (AV.c (CV.v (Value.int IntKind.i64 (Int.tdiv a b - (1 : Int))))) []) (FC.Fin (c_flr a b) (AV.c (CV.v (Value.int IntKind.i64 (Int.tdiv a b)))) [])) (by kernel_rfl) ?_
  have f := flo (a := a) hb
  have tb : (a.tdiv b).natAbs ≤ a.natAbs := tdB
  repeat' (first | (with_reducible refine And.intro ?_ ?_) | refine brN ?_ | refine brD (fun _ => ?_) (fun _ => ?_) | refine brE (fun _ => ?_) (fun _ => ?_) | refine brEn (fun _ => ?_) (fun _ => ?_) | refine brEb (fun _ => ?_) (fun _ => ?_) | refine brS (fun _ => ?_) (fun _ => ?_) | refine brI (fun _ => ?_) (fun _ => ?_) | omega | exact wrI (by omega) (by omega) | exact finV (iv_eq (f.1 ‹_›)) rfl | exact finV (iv_eq (f.2 ‹_›)) rfl | fail)
noncomputable def e_flr : CE Try.prog := CE.pure 54 [.c .x, .c .x] (fun
  | [.c (.v (.int .i64 a)), .c (.v (.int .i64 b))] => some ([a.natAbs ≤ 1000000, 0 < b], iv (a / b), [])
  | _ => none) (by
  intro ys q v hp1 h hq
  split at h <;> cases h
  exact flr_sem _ _ hq.1 hq.2.1)
end Go.Proofs.Ytekdfddodabfcaa
