/- The table of forms, read. -/
import Derived.Test.YtgcihcgclmdolaaCodeT
namespace Go.Proofs.Ytgcihcgclmdolaa
open Go.RowKit Go.Maps Go.Proofs.Ytgcihcgclmdolaa.PC
set_option linter.unusedVariables false
set_option linter.unusedSimpArgs false
instance : DecidableEq Fm := fun a b => decidable_of_iff (a.kind = b.kind ∧ a.op = b.op ∧ a.f3 = b.f3 ∧ a.f7 = b.f7 ∧ a.rs2 = b.rs2) ⟨fun h => by cases a; cases b; simp at h ⊢; exact h, fun h => by subst h; exact ⟨rfl, rfl, rfl, rfl, rfl⟩⟩
def PC.Fm.val (f : Fm) : Value := formV f.kind f.op f.f3 f.f7 f.rs2
/-- The table as it is filled. -/
def kvs : List (Int × Fm) := [
  (1, ⟨82, 51, 0, 0, -1⟩), (2, ⟨82, 51, 0, 32, -1⟩), (3, ⟨82, 51, 1, 0, -1⟩), (4, ⟨82, 51, 2, 0, -1⟩), (5, ⟨82, 51, 3, 0, -1⟩), (6, ⟨82, 51, 4, 0, -1⟩), (7, ⟨82, 51, 5, 0, -1⟩), (8, ⟨82, 51, 5, 32, -1⟩), (9, ⟨82, 51, 6, 0, -1⟩), (10, ⟨82, 51, 7, 0, -1⟩),
  (11, ⟨82, 51, 0, 1, -1⟩), (12, ⟨82, 51, 1, 1, -1⟩), (13, ⟨82, 51, 3, 1, -1⟩), (14, ⟨82, 51, 4, 1, -1⟩), (15, ⟨82, 51, 5, 1, -1⟩), (16, ⟨82, 51, 6, 1, -1⟩), (17, ⟨82, 51, 7, 1, -1⟩),
  (18, ⟨73, 19, 0, 0, -1⟩), (19, ⟨73, 19, 2, 0, -1⟩), (20, ⟨73, 19, 3, 0, -1⟩), (21, ⟨73, 19, 4, 0, -1⟩), (22, ⟨73, 19, 6, 0, -1⟩), (23, ⟨73, 19, 7, 0, -1⟩),
  (24, ⟨72, 19, 1, 0, -1⟩), (25, ⟨72, 19, 5, 0, -1⟩), (26, ⟨72, 19, 5, 32, -1⟩), (27, ⟨73, 3, 0, 0, -1⟩), (29, ⟨73, 3, 2, 0, -1⟩), (28, ⟨73, 3, 4, 0, -1⟩), (41, ⟨73, 103, 0, 0, -1⟩), (43, ⟨73, 7, 3, 0, -1⟩),
  (30, ⟨83, 35, 0, 0, -1⟩), (31, ⟨83, 35, 2, 0, -1⟩), (44, ⟨83, 39, 3, 0, -1⟩), (32, ⟨66, 99, 0, 0, -1⟩), (33, ⟨66, 99, 1, 0, -1⟩), (34, ⟨66, 99, 4, 0, -1⟩), (35, ⟨66, 99, 5, 0, -1⟩), (36, ⟨66, 99, 6, 0, -1⟩), (37, ⟨66, 99, 7, 0, -1⟩),
  (38, ⟨85, 55, 0, 0, -1⟩), (39, ⟨85, 23, 0, 0, -1⟩), (40, ⟨74, 111, 0, 0, -1⟩), (42, ⟨69, 115, 0, 0, -1⟩),
  (45, ⟨82, 83, 0, 1, -1⟩), (46, ⟨82, 83, 0, 5, -1⟩), (47, ⟨82, 83, 0, 9, -1⟩), (48, ⟨82, 83, 0, 13, -1⟩), (51, ⟨82, 83, 2, 81, -1⟩), (52, ⟨82, 83, 1, 81, -1⟩), (53, ⟨82, 83, 0, 81, -1⟩),
  (49, ⟨82, 83, 0, 17, 32⟩), (50, ⟨82, 83, 1, 17, 32⟩), (54, ⟨82, 83, 1, 97, 0⟩), (55, ⟨82, 83, 0, 105, 0⟩)]
def putL (D : DataW Value) (l : List (Int × Fm)) : DataW Value := l.foldl (fun D p => putF D p.1 p.2.val) D
theorem tableD_eq : tableD = putL (.map []) kvs := by kernel_rfl
theorem putL_isMap : ∀ (l : List (Int × Fm)) (D : DataW Value), IsMap D → IsMap (putL D l)
  | [], _, h => h
  | p :: r, D, h => putL_isMap r _ (h.put _ _)
theorem isKey (x : Int) : WideAt.IsKeyLit (.int .i64 x) := by simp [WideAt.IsKeyLit]
theorem putL_at (x : Int) (z : DataW Value) : ∀ (l : List (Int × Fm)) (D : DataW Value), IsMap D → (putL D l.reverse).atKey (.int .i64 x) z = (match l.find? (fun p => p.1 == x) with | some p => .held p.2.val | none => D.atKey (.int .i64 x) z) := by
  intro l
  induction l with
  | nil => intro D hD; simp [putL]
  | cons p l ih =>
    intro D hD
    have e : putL D (p :: l).reverse = putF (putL D l.reverse) p.1 p.2.val := by simp [putL, List.foldl_append]
    rw [e, putF]
    simp only [List.find?_cons]
    by_cases h : p.1 = x
    · subst h
      simp [atKey_put_same (putL_isMap l.reverse D hD) (isKey _)]
    · have h' : (p.1 == x) = false := by simp [h]
      rw [h', atKey_put_other (by intro e; cases e; exact h rfl)]
      exact ih D hD
theorem putL_has (x : Int) : ∀ (l : List (Int × Fm)) (D : DataW Value), IsMap D → Maps.has (putL D l.reverse) (.int .i64 x) = (Maps.has D (.int .i64 x) || (l.find? (fun p => p.1 == x)).isSome) := by
  intro l
  induction l with
  | nil => intro D hD; simp [putL]
  | cons p l ih =>
    intro D hD
    have e : putL D (p :: l).reverse = putF (putL D l.reverse) p.1 p.2.val := by simp [putL, List.foldl_append]
    rw [e, putF]
    simp only [List.find?_cons]
    by_cases h : p.1 = x
    · subst h
      simp [has_put_same (putL_isMap l.reverse D hD) (isKey _)]
    · have h' : (p.1 == x) = false := by simp [h]
      rw [h', has_put_other (by intro e; cases e; exact h rfl)]
      exact ih D hD
theorem kvs_all : (List.range 55).all (fun i => match kvs.reverse.find? (fun p => p.1 == (i : Int) + 1), tbl[i]? with | some p, some f => decide (p.2 = f) | _, _ => false) = true := by decide +kernel
theorem kvs_keys : kvs.all (fun p => decide (1 ≤ p.1 ∧ p.1 ≤ 55)) = true := by decide +kernel
theorem kvs_find (x : Int) : (kvs.reverse.find? (fun p => p.1 == x)).map (·.2) = formOf x := by
  unfold formOf
  split
  · rename_i h
    have h1 := List.all_eq_true.1 kvs_all (x - 1).toNat (List.mem_range.2 (by omega))
    have e : ((x - 1).toNat : Int) + 1 = x := by omega
    rw [e] at h1
    cases h2 : kvs.reverse.find? (fun p => p.1 == x) with
    | none => rw [h2] at h1; simp at h1
    | some p =>
      cases h3 : tbl[(x - 1).toNat]? with
      | none => rw [h2, h3] at h1; simp at h1
      | some f =>
        rw [h2, h3] at h1
        simp at h1
        simp [h1]
  · rename_i h
    cases h2 : kvs.reverse.find? (fun p => p.1 == x) with
    | none => rfl
    | some p =>
      have h3 := List.find?_some h2
      have h4 := List.mem_of_find?_eq_some h2
      have h5 := List.all_eq_true.1 kvs_keys p (List.mem_reverse.1 h4)
      simp at h3 h5
      rw [h3] at h5
      exact absurd h5 h
theorem table_at (x : Int) (z : DataW Value) : tableD.atKey (.int .i64 x) z = (match formOf x with | some f => .held f.val | none => z) := by
  rw [tableD_eq, ← List.reverse_reverse kvs, putL_at x z kvs.reverse _ isMap_empty, ← kvs_find]
  cases kvs.reverse.find? (fun p => p.1 == x) with
  | none => simp [DataW.atKey]
  | some p => rfl
theorem table_has (x : Int) : Maps.has tableD (.int .i64 x) = (formOf x).isSome := by
  rw [tableD_eq, ← List.reverse_reverse kvs, putL_has x kvs.reverse _ isMap_empty, ← kvs_find]
  cases kvs.reverse.find? (fun p => p.1 == x) with
  | none => simp [Maps.has]
  | some p => simp
end Go.Proofs.Ytgcihcgclmdolaa
