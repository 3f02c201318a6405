/- Pairs of registers as a map; the closure that adds one, walked. Conditions stand at each. -/
import Derived.Test.YtkianddaccoeiaaLivF
import Derived.Test.YtkianddaccoeiaaPlainClash
import Derived.WideKeyPair
import Derived.WideKeyArr
namespace Go.Proofs.Ytkianddaccoeiaa
open Go.RowKit Go.Maps Go.WideShapes Go.WideMaps Go.Proofs.Ytkianddaccoeiaa.PL
set_option linter.unusedVariables false
set_option linter.unusedSimpArgs false
theorem arrP : ArrKey Try.prog 39 3 2 := ⟨Try.underlying39, by kernel_rfl, by kernel_rfl, by kernel_rfl⟩
theorem lawP : Keyed Try.prog 39 := Keyed.of_law arrP.law
/-- What a pair reads as, as a key. -/
def k2 (a b : Int) : Lit := .string (keyBytes [.int .i64 a, .int .i64 b])
theorem isKey2 (a b : Int) : WideAt.IsKeyLit (k2 a b) := by simp [k2, WideAt.IsKeyLit]
set_option maxRecDepth 100000 in
theorem typesSize : ∃ m, Try.prog.types.size = m + 1 := ⟨Try.prog.types.size - 1, by have : 0 < Try.prog.types.size := of_decide_eq_true (by kernel_rfl); omega⟩
theorem key2 {a b : Int} (ha : -9223372036854775808 ≤ a ∧ a ≤ 9223372036854775807) (hb : -9223372036854775808 ≤ b ∧ b ≤ 9223372036854775807) : keyOf Try.prog 39 (.agg #[.int .i64 a, .int .i64 b]) = some (k2 a b) :=
  keyOf_pair arrP Try.underlying3 typesSize (WalkArith.wf_i64 (by omega)) (WalkArith.wf_i64 (by omega))
theorem two_of {cs : Array Value} (h : cs.size = 2) : ∃ a b, cs = #[a, b] := by
  obtain ⟨l⟩ := cs
  match l, h with
  | [a, b], _ => exact ⟨a, b, rfl⟩
set_option maxRecDepth 100000 in
theorem key2_inv {v : Value} {l : Lit} (h : keyOf Try.prog 39 v = some l) : ∃ a b : Int, v = .agg #[.int .i64 a, .int .i64 b] ∧ (Lit.int .i64 a).wf = true ∧ (Lit.int .i64 b).wf = true ∧ l = k2 a b := by
  have hkt := arrP.keyType typesSize
  obtain ⟨m, hm⟩ := typesSize
  unfold keyOf at h
  simp only [arrP.hu] at h
  split at h
  · rename_i hf
    simp only [Bool.and_eq_true] at hf
    obtain ⟨-, hf⟩ := hf
    cases v <;> simp [Value.formed, arrP.hu, arrP.size] at hf
    rename_i cs
    obtain ⟨c0, c1, rfl⟩ := two_of hf
    rw [hm] at h
    unfold Program.keyLits at h
    simp only [arrP.hu, Value.cells] at h
    rw [if_pos (by rw [arrP.size]; rfl), show List.range 2 = [0, 1] from rfl, List.mapM_cons, List.mapM_cons, List.mapM_nil] at h
    have one : ∀ c : Value, ∀ L, Try.prog.keyLits (m + 1) 3 [c] = some L → ∃ a, c = .int .i64 a ∧ (Lit.int .i64 a).wf = true ∧ L = [.int .i64 a] := by
      intro c L hc
      unfold Program.keyLits at hc
      rw [Try.underlying3] at hc
      cases c <;> simp at hc
      obtain ⟨⟨rfl, hw⟩, rfl⟩ := hc
      exact ⟨_, rfl, hw, rfl⟩
    simp only [arrP.one, Nat.zero_mul, Nat.one_mul, List.drop_zero, List.drop_succ_cons, List.take_succ_cons, List.take_zero] at h
    cases h0 : Try.prog.keyLits (m + 1) 3 [c0] with
    | none => simp [h0] at h
    | some L0 =>
      cases h1 : Try.prog.keyLits (m + 1) 3 [c1] with
      | none => simp [h0, h1] at h
      | some L1 =>
        obtain ⟨a0, rfl, w0, rfl⟩ := one _ _ h0
        obtain ⟨a1, rfl, w1, rfl⟩ := one _ _ h1
        simp [h0, h1] at h
        exact ⟨a0, a1, rfl, w0, w1, h.symm⟩
  · cases h
theorem k2_inj {a b c d : Int} (ha : -9223372036854775808 ≤ a ∧ a ≤ 9223372036854775807) (hb : -9223372036854775808 ≤ b ∧ b ≤ 9223372036854775807) (hc : -9223372036854775808 ≤ c ∧ c ≤ 9223372036854775807) (hd : -9223372036854775808 ≤ d ∧ d ≤ 9223372036854775807) (h : k2 a b = k2 c d) : a = c ∧ b = d := by
  have e := lawP.inj (key2 ha hb) (by rw [h]; exact key2 hc hd)
  simp only [Value.agg.injEq, Array.mk.injEq, List.cons.injEq, Value.int.injEq, true_and, and_true] at e
  exact e
/-- Block b holds a set of pairs of numbers from 0 to below K. -/
def PairsAt (w : World) (b K : Nat) (S : Int → Int → Bool) : Prop := ∃ D : DataW Value, w.ownsMap Try.prog 39 RB b (Maps.size D) D ∧ (∀ x y : Int, (0 ≤ x ∧ x < K) → (0 ≤ y ∧ y < K) → Maps.has D (k2 x y) = S x y) ∧ (∀ x y, S x y = true → (0 ≤ x ∧ x < K) ∧ 0 ≤ y ∧ y < K) ∧ ∀ kl, Maps.has D kl = true → ∃ x y : Int, (0 ≤ x ∧ x < K) ∧ (0 ≤ y ∧ y < K) ∧ kl = k2 x y
theorem PairsAt.kp {w w' : World} {b K : Nat} {S : Int → Int → Bool} (h : PairsAt w b K S) (k : Kp w w') : PairsAt w' b K S := by
  obtain ⟨D, h, r⟩ := h
  have hl := h.lt
  obtain ⟨es, clock, hb, r'⟩ := h
  exact ⟨D, ⟨es, clock, (k.block hl).trans hb, r'⟩, r⟩
theorem PairsAt.lt {w : World} {b K : Nat} {S : Int → Int → Bool} (h : PairsAt w b K S) : b < w.heap.size := by
  obtain ⟨D, h, r⟩ := h
  exact h.lt
theorem PairsAt.grown {w w' : World} {b K : Nat} {S : Int → Int → Bool} {row : Option Nat} (h : PairsAt w b K S) (hg : w.grownBy w' row) (hne : some b ≠ row) : PairsAt w' b K S := by
  obtain ⟨D, h, r⟩ := h
  exact ⟨D, h.kept hg hne, r⟩
theorem PairsAt.made (w : World) (K : Nat) : PairsAt (w.alloc (.map #[] 0)) w.heap.size K (fun _ _ => false) := ⟨.map [], World.ownsMap_made w _ _ _, fun x y _ _ => rfl, (fun x y h => by cases h), fun kl h => by simp [Maps.has] at h⟩
theorem PairsAt.noCells {w : World} {b K : Nat} {S : Int → Int → Bool} (h : PairsAt w b K S) : ∀ cs ty fr, w.heap[b]? ≠ some (.cells cs ty fr) := by
  obtain ⟨D, ⟨es, clock, hb, -⟩, -⟩ := h
  intro cs ty fr e
  rw [hb] at e
  cases e
theorem pairs_keys {w : World} {b n : Nat} {D : DataW Value} {R : Value → Option (DataW Value × List MemPlace)} (h : w.ownsMap Try.prog 39 R b n D) : ∃ es, D = .map es ∧ es.Pairwise (fun p q => p.1 ≠ q.1) ∧ ∀ p ∈ es, Maps.has D p.1 = true := by
  obtain ⟨es, he, hd, hk⟩ := h.entries lawP
  subst he
  refine ⟨es, rfl, hd, fun p hp => ?_⟩
  exact List.any_eq_true.2 ⟨p, hp, WideAt.sameKey_self (hk p hp)⟩
/-- The pairs that are keys, in the order of the entries. -/
theorem pairs_list {D : DataW Value} {K : Nat} (hi : ∀ kl, Maps.has D kl = true → ∃ x y : Int, (0 ≤ x ∧ x < K) ∧ (0 ≤ y ∧ y < K) ∧ kl = k2 x y) (hK : K ≤ 10000) : ∀ es : List (Lit × DataW Value), (∀ p ∈ es, Maps.has D p.1 = true) → es.Pairwise (fun p q => p.1 ≠ q.1) → ∃ ps : List (Int × Int), es.map (·.1) = ps.map (fun p => k2 p.1 p.2) ∧ ps.Nodup ∧ ∀ p ∈ ps, (0 ≤ p.1 ∧ p.1 < K) ∧ 0 ≤ p.2 ∧ p.2 < K
  | [], _, _ => ⟨[], rfl, List.nodup_nil, fun p h => by cases h⟩
  | e :: es, h, hd => by
    rw [List.pairwise_cons] at hd
    obtain ⟨ps, h1, h2, h3⟩ := pairs_list hi hK es (fun p hp => h p (List.mem_cons_of_mem _ hp)) hd.2
    obtain ⟨x, y, hx, hy, he⟩ := hi e.1 (h e (List.mem_cons_self ..))
    refine ⟨(x, y) :: ps, by simp [h1, he], List.nodup_cons.2 ⟨fun hm => ?_, h2⟩, fun p hp => ?_⟩
    · have hm2 : k2 x y ∈ ps.map (fun p => k2 p.1 p.2) := List.mem_map.2 ⟨(x, y), hm, rfl⟩
      rw [← h1] at hm2
      obtain ⟨q, hq, hq2⟩ := List.mem_map.1 hm2
      exact hd.1 q hq (by rw [he, hq2])
    · rcases List.mem_cons.1 hp with rfl | hp
      · exact ⟨hx, hy⟩
      · exact h3 p hp
theorem pairs_few {ps : List (Int × Int)} {K : Nat} (hd : ps.Nodup) (h : ∀ p ∈ ps, (0 ≤ p.1 ∧ p.1 < K) ∧ 0 ≤ p.2 ∧ p.2 < K) : ps.length ≤ K * K := by
  have e : (ps.map fun p : Int × Int => p.1 * (K : Int) + p.2).length ≤ K * K := by
    refine nodup_length ?_ (fun x hx => ?_)
    · rw [List.nodup_iff_pairwise_ne, List.pairwise_map]
      refine List.Pairwise.imp_of_mem (fun {p q} hp hq hne e => hne ?_) hd
      obtain ⟨hp1, hp2⟩ := h p hp
      obtain ⟨hq1, hq2⟩ := h q hq
      have h1 : p.1 = q.1 := by
        have a1 : (p.1 * K + p.2) / K = p.1 := by rw [Int.add_comm, Int.add_mul_ediv_right _ _ (by omega), Int.ediv_eq_zero_of_lt hp2.1 hp2.2, Int.zero_add]
        have a2 : (q.1 * K + q.2) / K = q.1 := by rw [Int.add_comm, Int.add_mul_ediv_right _ _ (by omega), Int.ediv_eq_zero_of_lt hq2.1 hq2.2, Int.zero_add]
        rw [← a1, e, a2]
      rw [h1] at e
      have h2 : p.2 = q.2 := by omega
      exact Prod.ext h1 h2
    · obtain ⟨p, hp, rfl⟩ := List.mem_map.1 hx
      obtain ⟨hp1, hp2⟩ := h p hp
      have h1 : 0 ≤ p.1 * K := Int.mul_nonneg hp1.1 (by omega)
      have h2 : p.1 * K ≤ ((K : Int) - 1) * K := Int.mul_le_mul_of_nonneg_right (by omega) (by omega)
      have h3 : ((K : Int) - 1) * K = (K * K : Nat) - (K : Int) := by rw [Int.sub_mul, Int.one_mul]; simp
      omega
  simpa using e
theorem PairsAt.keys {w : World} {b K : Nat} {D : DataW Value} {n : Nat} {R : Value → Option (DataW Value × List MemPlace)} (h : w.ownsMap Try.prog 39 R b n D) (hi : ∀ kl, Maps.has D kl = true → ∃ x y : Int, (0 ≤ x ∧ x < K) ∧ (0 ≤ y ∧ y < K) ∧ kl = k2 x y) (hK : K ≤ 10000) :
    ∃ (es : List (Lit × DataW Value)) (ps : List (Int × Int)), D = .map es ∧ es.map (·.1) = ps.map (fun p => k2 p.1 p.2) ∧ ps.Nodup ∧ (∀ p ∈ ps, (0 ≤ p.1 ∧ p.1 < K) ∧ 0 ≤ p.2 ∧ p.2 < K) ∧ Maps.size D = ps.length ∧ ps.length ≤ K * K := by
  obtain ⟨es, he, hd, hk⟩ := pairs_keys h
  obtain ⟨ps, h1, h2, h3⟩ := pairs_list hi hK es hk hd
  refine ⟨es, ps, he, h1, h2, h3, ?_, pairs_few h2 h3⟩
  have := congrArg List.length h1
  simp only [List.length_map] at this
  rw [he]
  exact this
theorem put_pairs {D : DataW Value} (hD : IsMap D) {K : Nat} (hK : K ≤ 10000) {S : Int → Int → Bool} (h : ∀ x y : Int, (0 ≤ x ∧ x < K) → (0 ≤ y ∧ y < K) → Maps.has D (k2 x y) = S x y) (a b : Int) (ha : 0 ≤ a ∧ a < K) (hb : 0 ≤ b ∧ b < K) (d : DataW Value) : ∀ x y : Int, (0 ≤ x ∧ x < K) → (0 ≤ y ∧ y < K) → Maps.has (D.put (k2 a b) d) (k2 x y) = putP S a b x y := by
  intro x y hx hy
  unfold putP
  by_cases e : x = a ∧ y = b
  · obtain ⟨rfl, rfl⟩ := e
    rw [has_put_same hD (isKey2 _ _)]
    simp
  · rw [has_put_other (fun e2 => e (k2_inj (by omega) (by omega) (by omega) (by omega) e2)), h x y hx hy]
    simp [e]
section
variable {ops : Array Oper} {rest : List Oper} {o : Oper} {a : Act} {Q : Exit → Act → World → Prop}
/-- 'm[[2]int{x, y}] = true'. -/
theorem wpList_putP (w : World) (hg : o.guard = none) (m x v : Operand) (t : TypeId) (hop : o.op = Op.mapUpdate t m x v) (ht : Try.prog.underlying t = some (.map 39 4)) (b K : Nat) (S : Int → Int → Bool)
    (hm : a.eval m = .map (some b)) (h : PairsAt w b K S) (hK0 : K ≤ 10000) (y z : Int) (hx : a.eval x = .agg #[.int .i64 y, .int .i64 z]) (hv : a.eval v = .bool true) (hy : 0 ≤ y ∧ y < K) (hz : 0 ≤ z ∧ z < K)
    (hK : ∀ w', PairsAt w' b K (putP S y z) → w.grownBy w' (some b) → wpList Try.prog ops Q rest (a.put o.dst undef) w') : wpList Try.prog ops Q (o :: rest) a w := by
  obtain ⟨D, hown, hS, hb, hi⟩ := h
  obtain ⟨es, ps, -, -, -, -, hsz, hle⟩ := PairsAt.keys hown hi hK0
  have hKK : K * K ≤ 10000 * 10000 := Nat.mul_le_mul hK0 hK0
  refine wpList_mapUpdate_own w hg m x v t hop 39 4 lawP ht RB b (Maps.size D) D hm hown (by unfold maxLen; omega) (.agg #[.int .i64 y, .int .i64 z]) (.bool true) (k2 y z) hx hv (key2 (by omega) (by omega)) (.held (.bool true)) [] rfl ?_
  intro w' hown' hg'
  refine hK w' ⟨D.put (k2 y z) (.held (.bool true)), ?_, put_pairs hown.isMap hK0 hS y z hy hz _, fun c d hcd => ?_, fun kl hkl => ?_⟩ hg'
  · obtain ⟨es, clock, e1, F, e2, e3⟩ := hown'
    refine ⟨es, clock, e1, F, ?_, e3⟩
    rw [e3]
    simp [Maps.size, length_sorted]
  · unfold putP at hcd
    simp only [Bool.or_eq_true, decide_eq_true_eq] at hcd
    rcases hcd with ⟨rfl, rfl⟩ | hcd
    · exact ⟨hy, hz⟩
    · exact hb c d hcd
  · by_cases e : kl = k2 y z
    · exact ⟨y, z, hy, hz, e⟩
    · rw [has_put_other e] at hkl
      exact hi kl hkl
end
end Go.Proofs.Ytkianddaccoeiaa
