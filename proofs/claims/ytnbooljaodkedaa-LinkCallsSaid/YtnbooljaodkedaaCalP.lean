/- LinkCalls: by value. No condition. -/
import Derived.Test.YtnbooljaodkedaaMorP
namespace Go.Proofs.Ytnbooljaodkedaa
open Go.RowKit Go.Proofs.Ytnbooljaodkedaa.PC Go.Proofs.Ytnbooljaodkedaa.PW
set_option linter.unusedVariables false
set_option linter.unusedSimpArgs false
/-- The name of a function. -/
def nmF (i : Nat) : ByteArray := ⟨#[102, UInt8.ofNat (97 + i)]⟩
def defF (i : Nat) : SymV := ⟨nmF i, 1, 0, 0, true⟩
def useF (i : Nat) : SymV := ⟨nmF i, 0, 0, 0, true⟩
def relF (i : Nat) : RelV := ⟨1, ((i + 2 : Nat) : Int), 4, ((i + 1 : Nat) : Int), 0⟩
def fP (x : Int) : List Ins := [addI x, ⟨41, 0, 1, 0, 0⟩]
def fO (i : Nat) (x : Int) : ObjV := ⟨wordsL (fP x), [], [defF i], []⟩
def jalI : Ins := ⟨40, 1, 0, 0, 0⟩
def mP (n : Nat) : List Ins := ⟨18, 5, 1, 0, 0⟩ :: ⟨18, 10, 0, 0, 0⟩ :: (List.replicate n jalI ++ [⟨41, 0, 5, 0, 0⟩])
def usesF (n : Nat) : List SymV := (List.range n).map useF
def relsF (n : Nat) : List RelV := (List.range n).map relF
def mO (n : Nat) : ObjV := ⟨wordsL (mP n), [], mainS :: usesF n, relsF n⟩
def fsO (ns : List Int) : List ObjV := ns.mapIdx fO
def callsO (ns : List Int) : List ObjV := mO ns.length :: fsO ns
theorem nmF_inj : ∀ i j : Fin 16, nmF i.val = nmF j.val → i = j := by decide +kernel
theorem nmF_main : ∀ i : Fin 16, nmF i.val ≠ mainB := by decide +kernel
theorem nmF_name : ∀ i : Fin 16, nameV (nmF i.val) = true := by decide +kernel
theorem nm_ne {i j : Nat} (hi : i < 16) (hj : j < 16) (h : i ≠ j) : nmF i ≠ nmF j := fun e => h (Fin.mk.inj_iff.1 (nmF_inj ⟨i, hi⟩ ⟨j, hj⟩ e))
theorem mP_len (n : Nat) : (mP n).length = n + 3 := by simp [mP]
theorem fP_ok {x : Int} (h : Byte x) : ∀ i ∈ fP x, i.ok := by
  intro i hi
  simp only [fP, List.mem_cons, List.not_mem_nil, or_false] at hi
  rcases hi with rfl | rfl
  · exact addI_ok h
  · exact ret_ok
theorem jalI_ok : jalI.ok := ⟨jal_e, by decide, by decide⟩
theorem mP_ok (n : Nat) : ∀ i ∈ mP n, i.ok := by
  intro i hi
  unfold mP at hi
  rcases List.mem_cons.1 hi with rfl | hi
  · exact ⟨by decide +kernel, by decide, by decide⟩
  rcases List.mem_cons.1 hi with rfl | hi
  · exact first_ok
  rcases List.mem_append.1 hi with hi | hi
  · obtain ⟨-, rfl⟩ := List.mem_replicate.1 hi
    exact jalI_ok
  · obtain rfl := List.mem_singleton.1 hi
    exact ⟨by decide +kernel, by decide, by decide⟩
theorem fO_wf {i : Nat} {x : Int} : (fO i x).wf := by
  refine ⟨getD_wordsL _, (fun x hx => nomatch hx), fun s hs => ?_, fun s hs => ?_, (fun r hr => nomatch hr), by show 2 ≤ 140737488355328; decide, by show 0 ≤ 140737488355328; decide, by show 1 ≤ 140737488355328; decide, by show 0 ≤ 140737488355328; decide⟩
  · obtain rfl := List.mem_singleton.1 hs
    show (2 : Nat) ≤ 140737488355328
    decide
  · obtain rfl := List.mem_singleton.1 hs
    exact ⟨by show I64 1; unfold I64; omega, by show I64 0; unfold I64; omega, by show I64 0; unfold I64; omega⟩
theorem fO_ok {i : Nat} {x : Int} (hi : i < 16) : objOk (fO i x) := by
  refine ⟨⟨by show 2 ≤ 65536; decide, by show 0 ≤ 65536; decide, rfl, by show 1 ≤ 600; decide, by show 0 ≤ 65536; decide⟩, fun s hs => ?_, List.pairwise_singleton _ _, fun j hj => absurd hj (Nat.not_lt_zero _), (fun r hr => nomatch hr)⟩
  obtain rfl := List.mem_singleton.1 hs
  refine ⟨nmF_name ⟨i, hi⟩, ?_⟩
  show (if (1 : Int) = 0 then _ else if (1 : Int) = 1 then _ else _) = true
  rw [if_neg (by decide), if_pos rfl]
  exact decide_eq_true ⟨by show (0 : Int) ≤ 0; decide, by show (0 : Int) ≤ ((2 : Nat) : Int); decide, by show (0 : Int) ≤ 0; decide, by show (0 : Int) ≤ 1048576; decide, by show (0 : Int) % 16 = 0; decide⟩
theorem uses_mem {n : Nat} {s : SymV} (h : s ∈ usesF n) : ∃ i, i < n ∧ s = useF i := by
  obtain ⟨i, hi, rfl⟩ := List.mem_map.1 h
  exact ⟨i, List.mem_range.1 hi, rfl⟩
theorem rels_mem {n : Nat} {r : RelV} (h : r ∈ relsF n) : ∃ i, i < n ∧ r = relF i := by
  obtain ⟨i, hi, rfl⟩ := List.mem_map.1 h
  exact ⟨i, List.mem_range.1 hi, rfl⟩
theorem rels_at {n i : Nat} (h : i < n) : (relsF n)[i]? = some (relF i) := by simp [relsF, h]
theorem mO_wf {n : Nat} (h : n ≤ 10) : (mO n).wf := by
  refine ⟨getD_wordsL _, (fun x hx => nomatch hx), fun s hs => ?_, fun s hs => ?_, fun r hr => ?_, by show (wordsL (mP n)).length ≤ _; rw [wordsL_len, mP_len]; omega, by show 0 ≤ 140737488355328; decide, by show (usesF n).length + 1 ≤ _; simp [usesF]; omega, by show (relsF n).length ≤ _; simp [relsF]; omega⟩
  · rcases List.mem_cons.1 hs with rfl | hs
    · exact (by decide : mainB.size ≤ 140737488355328)
    · obtain ⟨i, -, rfl⟩ := uses_mem hs
      show (2 : Nat) ≤ 140737488355328
      decide
  · rcases List.mem_cons.1 hs with rfl | hs
    · exact ⟨by show I64 1; unfold I64; omega, by show I64 0; unfold I64; omega, by show I64 0; unfold I64; omega⟩
    · obtain ⟨i, -, rfl⟩ := uses_mem hs
      exact ⟨by show I64 0; unfold I64; omega, by show I64 0; unfold I64; omega, by show I64 0; unfold I64; omega⟩
  · obtain ⟨i, hi, rfl⟩ := rels_mem hr
    exact ⟨by show I64 1; unfold I64; omega, by show I64 ((i + 2 : Nat) : Int); unfold I64; omega, by show I64 4; unfold I64; omega, by show I64 ((i + 1 : Nat) : Int); unfold I64; omega, by show I64 0; unfold I64; omega⟩
theorem mP_jal {n i : Nat} (h : i < n) : (mP n)[i + 2]? = some jalI := by
  show (List.replicate n jalI ++ _)[i]? = _
  rw [List.getElem?_append_left (by simpa using h), List.getElem?_replicate, if_pos h]
theorem mO_ok {n : Nat} (h : n ≤ 10) : objOk (mO n) := by
  have hul : (usesF n).length = n := by simp [usesF]
  have hrl : (relsF n).length = n := by simp [relsF]
  have hwl : (wordsL (mP n)).length = n + 3 := by rw [wordsL_len, mP_len]
  refine ⟨⟨by show (wordsL (mP n)).length ≤ _; omega, by show 0 ≤ 65536; decide, rfl, by show (usesF n).length + 1 ≤ 600; omega, by show (relsF n).length ≤ _; omega⟩, fun s hs => ?_, ?_, fun j hj => ?_, fun r hr => ?_⟩
  · rcases List.mem_cons.1 hs with rfl | hs
    · refine ⟨nameV_main, ?_⟩
      show (if (1 : Int) = 0 then _ else if (1 : Int) = 1 then _ else _) = true
      rw [if_neg (by decide), if_pos rfl]
      exact decide_eq_true ⟨by decide, by show (0 : Int) ≤ _; omega, by decide, by decide, by decide⟩
    · obtain ⟨i, hi, rfl⟩ := uses_mem hs
      refine ⟨nmF_name ⟨i, by omega⟩, ?_⟩
      show (if (0 : Int) = 0 then _ else _) = true
      rw [if_pos rfl]
      rfl
  · refine List.pairwise_cons.2 ⟨fun s hs => ?_, ?_⟩
    · obtain ⟨i, hi, rfl⟩ := uses_mem hs
      exact (nmF_main ⟨i, by omega⟩).symm
    · show List.Pairwise _ ((List.range n).map useF)
      rw [List.pairwise_map]
      refine List.Pairwise.imp_of_mem (fun {a b} ha hb hab => ?_) (List.pairwise_lt_range (n := n))
      have := List.mem_range.1 ha
      have := List.mem_range.1 hb
      exact nm_ne (by omega) (by omega) (by omega)
  · have hj' : j < n := by
      have : j < (relsF n).length := hj
      omega
    have e : pairAt (relsF n) j = (1, ((j + 2 : Nat) : Int)) := by unfold pairAt; rw [rels_at hj']; rfl
    show relLt (prevP (relsF n) j) (pairAt (relsF n) j)
    rw [e]
    cases j with
    | zero => exact Or.inl (by decide : (0 : Int) < 1)
    | succ j =>
      have e' : prevP (relsF n) (j + 1) = (1, ((j + 2 : Nat) : Int)) := by
        show pairAt (relsF n) j = _
        unfold pairAt
        rw [rels_at (show j < n by omega)]
        rfl
      rw [e']
      exact Or.inr ⟨rfl, by show ((j + 2 : Nat) : Int) < ((j + 1 + 2 : Nat) : Int); omega⟩
  · obtain ⟨i, hi, rfl⟩ := rels_mem hr
    refine ⟨⟨by show (0 : Int) ≤ ((i + 1 : Nat) : Int); omega, by show ((i + 1 : Nat) : Int) < (((usesF n).length + 1 : Nat) : Int); omega, by show (-2147483648 : Int) ≤ 0; decide, by show (0 : Int) < 2147483648; decide⟩, Or.inr ⟨rfl, by show (0 : Int) ≤ ((i + 2 : Nat) : Int); omega, by show ((i + 2 : Nat) : Int) < ((wordsL (mP n)).length : Int); omega, ?_⟩⟩
    show ofW 4 ((wordsL (mP n)).getD ((i + 2 : Nat) : Int).toNat 0)
    have : (wordsL (mP n)).getD ((i + 2 : Nat) : Int).toNat 0 = jalI.word := by
      rw [Int.toNat_natCast, List.getD_eq_getElem?_getD]
      unfold wordsL
      rw [List.getElem?_map, mP_jal hi]
      rfl
    rw [this]
    exact jal_of
theorem fsO_at {ns : List Int} {i : Nat} {x : Int} (h : ns[i]? = some x) : (fsO ns)[i]? = some (fO i x) := by simp [fsO, h]
theorem fsO_mem {ns : List Int} {o : ObjV} (h : o ∈ fsO ns) : ∃ i x, ns[i]? = some x ∧ o = fO i x := by
  obtain ⟨i, hi⟩ := List.mem_iff_getElem?.1 h
  simp only [fsO, List.getElem?_mapIdx] at hi
  obtain ⟨x, hx, rfl⟩ := Option.map_eq_some_iff.1 hi
  exact ⟨i, x, hx, rfl⟩
theorem calls_mem {ns : List Int} {o : ObjV} (h : o ∈ callsO ns) : o = mO ns.length ∨ ∃ i x, ns[i]? = some x ∧ o = fO i x := by
  rcases List.mem_cons.1 h with h | h
  · exact Or.inl h
  · exact Or.inr (fsO_mem h)
theorem names_uses (n : Nat) : ((usesF n).filter SymV.defs) = [] := by
  rw [List.filter_eq_nil_iff]
  intro s hs
  obtain ⟨i, -, rfl⟩ := uses_mem hs
  show ¬(true && decide ((0 : Int) ≠ 0)) = true
  decide
theorem names_f (i : Nat) (x : Int) : namesO (fO i x) = [nmF i] := rfl
theorem names_m (n : Nat) : namesO (mO n) = [mainB] := by
  unfold namesO
  show ((mainS :: usesF n).filter SymV.defs).map _ = _
  rw [List.filter_cons_of_pos (by decide), names_uses]
  rfl
theorem names_fs : ∀ (ns : List Int) (j : Nat), (ns.mapIdx fun i x => fO (i + j) x).flatMap namesO = (List.range ns.length).map fun i => nmF (i + j)
  | [], _ => rfl
  | x :: ns, j => by
    rw [List.mapIdx_cons, List.flatMap_cons, names_f, List.length_cons, List.range_succ_eq_map, List.map_cons, List.map_map]
    have ih := names_fs ns (j + 1)
    have e1 : (ns.mapIdx fun i x => fO (i + 1 + j) x) = ns.mapIdx fun i x => fO (i + (j + 1)) x := by
      congr 1
      funext i x
      rw [show i + 1 + j = i + (j + 1) by omega]
    rw [e1, ih]
    show nmF (0 + j) :: _ = nmF (0 + j) :: _
    congr 1
    refine List.map_congr_left fun i _ => ?_
    show nmF (i + (j + 1)) = nmF (i + 1 + j)
    rw [show i + (j + 1) = i + 1 + j by omega]
theorem calls_once {ns : List Int} (h : ns.length ≤ 10) : once (defsA 0 (callsO ns)) := by
  rw [once_iff, defsA_names]
  show (List.flatMap namesO (mO ns.length :: fsO ns)).Nodup
  rw [List.flatMap_cons, names_m]
  have e : (fsO ns).flatMap namesO = (List.range ns.length).map nmF := by
    have := names_fs ns 0
    simpa [fsO] using this
  rw [e]
  show List.Nodup (mainB :: List.map nmF (List.range ns.length))
  rw [List.nodup_cons]
  refine ⟨fun hm => ?_, ?_⟩
  · obtain ⟨i, hi, e⟩ := List.mem_map.1 hm
    have := List.mem_range.1 hi
    exact nmF_main ⟨i, by omega⟩ e
  · unfold List.Nodup
    rw [List.pairwise_map]
    refine List.Pairwise.imp_of_mem (fun {a b} ha hb hab => ?_) (List.pairwise_lt_range (n := ns.length))
    have := List.mem_range.1 ha
    have := List.mem_range.1 hb
    exact nm_ne (by omega) (by omega) (by omega)
end Go.Proofs.Ytnbooljaodkedaa
