/- LinkOrder, walked. Condition: the argument is of its type. -/
import Derived.Test.YtnbooljaodkedaaLnkFw
namespace Go.Proofs.Ytnbooljaodkedaa
open Go.RowKit Go.Maps Go.ChangeShapes Go.WideShapes Go.Proofs.Ytnbooljaodkedaa.PC Go.Proofs.Ytnbooljaodkedaa.PW
set_option linter.unusedVariables false
set_option linter.unusedSimpArgs false
/-- What two orders come to. -/
theorem order_two {w1 w2 w1' w2' : World} {os os' : List ObjV} {e1 e2 : Ending} (hp : os.Perm os') (h1 : LinkR w1 os e1 w1') (h2 : LinkR w2 os' e2 w2') :
    Kp w1 w1' ∧ Kp w2 w2' ∧ ∃ (A1 A2 : Option Addr) (n1 c1 n2 c2 : Nat) (E1 E2 : Int), e1 = .returned (.tuple #[.agg #[.int .i64 0, .slice A1 n1 c1], .int .i64 E1]) ∧ e2 = .returned (.tuple #[.agg #[.int .i64 0, .slice A2 n2 c2], .int .i64 E2]) ∧
      ((E1 = E2 ∧ E1 ≠ 7 ∧ n1 = n2) ∨ (E1 = 7 ∧ (E2 = 7 ∨ E2 = 0)) ∨ (E2 = 7 ∧ E1 = 0)) := by
  have em := mainE_perm hp
  have el := imgLen_perm hp
  have h7 : mainE os ≠ 7 := by
    intro e
    by_cases hr : resE os = 0
    · cases hm : mainT os with
      | some t => rw [mainE_ok hr hm] at e; omega
      | none => rw [mainE_none hr hm] at e; omega
    · rw [mainE_res hr] at e
      unfold resE at e
      split at e
      · omega
      · split at e
        · omega
        · split at e <;> omega
  obtain ⟨k1, v1, E1, rfl, g1⟩ := h1
  obtain ⟨k2, v2, E2, rfl, g2⟩ := h2
  rw [em, el] at g2
  refine ⟨k1, k2, ?_⟩
  rcases g1 with ⟨a, rfl, rfl⟩ | ⟨a, b, rfl, rfl⟩ | ⟨a, b, t, -, ⟨-, rfl, rfl⟩ | ⟨mem, g, -, -, rfl, rfl, -⟩⟩
  · rcases g2 with ⟨a', rfl, rfl⟩ | ⟨a', b', rfl, rfl⟩ | ⟨a', -⟩
    · exact ⟨none, none, 0, 0, 0, 0, _, _, rfl, rfl, Or.inl ⟨rfl, h7, rfl⟩⟩
    · exact absurd a' a
    · exact absurd a' a
  · rcases g2 with ⟨a', -⟩ | ⟨a', b', rfl, rfl⟩ | ⟨a', b', -⟩
    · exact absurd a a'
    · exact ⟨none, none, 0, 0, 0, 0, _, _, rfl, rfl, Or.inl ⟨rfl, by decide, rfl⟩⟩
    · omega
  · rcases g2 with ⟨a', -⟩ | ⟨a', b', -⟩ | ⟨a', b', t', -, ⟨-, rfl, rfl⟩ | ⟨mem', g', -, -, rfl, rfl, -⟩⟩
    · exact absurd a a'
    · omega
    · exact ⟨none, none, 0, 0, 0, 0, _, _, rfl, rfl, Or.inr (Or.inl ⟨rfl, Or.inl rfl⟩)⟩
    · exact ⟨none, _, 0, 0, _, _, _, _, rfl, rfl, Or.inr (Or.inl ⟨rfl, Or.inr rfl⟩)⟩
  · rcases g2 with ⟨a', -⟩ | ⟨a', b', -⟩ | ⟨a', b', t', -, ⟨-, rfl, rfl⟩ | ⟨mem', g', -, -, rfl, rfl, -⟩⟩
    · exact absurd a a'
    · omega
    · exact ⟨_, none, _, _, 0, 0, _, _, rfl, rfl, Or.inr (Or.inr ⟨rfl, rfl⟩)⟩
    · exact ⟨_, _, _, _, _, _, _, _, rfl, rfl, Or.inl ⟨rfl, by decide, rfl⟩⟩
def lnkOut (A : Option Addr) (n c : Nat) (E : Int) : Ending := .returned (.tuple #[.agg #[.int .i64 0, .slice A n c], .int .i64 E])
theorem linkR_form {w w' : World} {os : List ObjV} {e : Ending} (h : LinkR w os e w') : Kp w w' ∧ ∃ A n c E, e = lnkOut A n c E := by
  obtain ⟨k, v, E, rfl, g⟩ := h
  refine ⟨k, ?_⟩
  rcases g with ⟨_, _, rfl⟩ | ⟨_, _, _, rfl⟩ | ⟨_, _, t, -, ⟨-, _, rfl⟩ | ⟨mem, g, -, -, _, rfl, -⟩⟩
  · exact ⟨_, _, _, _, rfl⟩
  · exact ⟨_, _, _, _, rfl⟩
  · exact ⟨_, _, _, _, rfl⟩
  · exact ⟨_, _, _, _, rfl⟩
theorem out_inj {A A' : Option Addr} {n n' c c' : Nat} {E E' : Int} (h : lnkOut A n c E = .returned (.tuple #[.agg #[.int .i64 0, .slice A' n' c'], .int .i64 E'])) : n = n' ∧ E = E' := by
  unfold lnkOut at h
  simp only [Ending.returned.injEq, Value.tuple.injEq, Array.mk.injEq, List.cons.injEq, Value.agg.injEq, Value.slice.injEq, Value.int.injEq, true_and, and_true] at h
  exact ⟨h.1.2.1, h.2⟩
theorem order_out {w1 w2 w1' w2' : World} {os os' : List ObjV} {A1 A2 : Option Addr} {n1 c1 n2 c2 : Nat} {E1 E2 : Int} (hp : os.Perm os') (h1 : LinkR w1 os (lnkOut A1 n1 c1 E1) w1') (h2 : LinkR w2 os' (lnkOut A2 n2 c2 E2) w2') :
    (E1 = E2 ∧ E1 ≠ 7 ∧ n1 = n2) ∨ (E1 = 7 ∧ (E2 = 7 ∨ E2 = 0)) ∨ (E2 = 7 ∧ E1 = 0) := by
  obtain ⟨-, -, A1', A2', n1', c1', n2', c2', E1', E2', a, b, h⟩ := order_two hp h1 h2
  obtain ⟨rfl, rfl⟩ := out_inj a
  obtain ⟨rfl, rfl⟩ := out_inj b
  exact h
set_option maxRecDepth 100000 in
theorem info_obj : ∃ i z, Try.prog.info? 38 = some i ∧ i.zero = some z ∧ i.size = 4 ∧ i.bytes = 96 ∧ z.cells.size = 4 := ⟨_, _, rfl, rfl, rfl, rfl, rfl⟩
theorem turn_count (k : Int) {n : Nat} (h0 : n ≠ 0) (h : n ≤ 1000) : ∃ j : Nat, j < n ∧ wrap64 ((IntKind.u64.wrap k).tmod (n : Int)) = (j : Int) := by
  have e : IntKind.u64.wrap k = k % 18446744073709551616 := PW.wrap_u64 k
  rw [e, Int.tmod_eq_emod_of_nonneg (by omega)]
  have h1 := Int.emod_nonneg (k % 18446744073709551616) (show (n : Int) ≠ 0 by omega)
  have h2 := Int.emod_lt_of_pos (k % 18446744073709551616) (show (0 : Int) < n by omega)
  generalize k % 18446744073709551616 % (n : Int) = y at *
  rw [PW.wrap64_id (a := y) (by omega)]
  exact ⟨y.toNat, by omega, by omega⟩
theorem cells_one (y : ObjC) : ∀ u ∈ y.cells, u.oneCell' = true := by
  intro u hu
  simp only [ObjC.cells, List.mem_cons, List.not_mem_nil, or_false] at hu
  rcases hu with rfl | rfl | rfl | rfl <;> rfl
theorem cells_ones (L : List ObjC) : ∀ u ∈ L.flatMap ObjC.cells, u.oneCell' = true := by
  intro u hu
  obtain ⟨y, _, h⟩ := List.mem_flatMap.1 hu
  exact cells_one y u h
/-- The cells of objects from one on. -/
theorem cells_from {w : World} {g off j : Nat} {L : List ObjC} (h : ∀ i y, L[i]? = some y → ∀ j, j < 4 → w.cell? ⟨g, off + i * 4 + j, none⟩ = y.cells[j]?) (M : List ObjC) (hM : ∀ i y, M[i]? = some y → L[j + i]? = some y) :
    ∀ i u, (M.flatMap ObjC.cells)[i]? = some u → w.cell? ((⟨g, off + j * 4, none⟩ : Addr).add i) = some u := by
  intro i u hu
  have e : i = i / 4 * 4 + i % 4 := by omega
  have hm : i % 4 < 4 := by omega
  rw [e, flat_get ObjC.cells_len M (i / 4) (i % 4) hm] at hu
  obtain ⟨y, hy, hu⟩ := Option.bind_eq_some_iff.1 hu
  rw [addr_add, show off + j * 4 + i = off + (j + i / 4) * 4 + i % 4 by omega]
  rw [h _ _ (hM _ _ hy) _ hm]
  exact hu
set_option maxRecDepth 100000 in
set_option maxHeartbeats 4000000 in
theorem order_any {w : World} {G : Option Addr} {n c : Nat} {os : List ObjV} (h : ObjsAt w G os) (hsl : SlOk G n c) (hty : ∀ o ∈ os, o.ty) (hn : os.length = n) (hl : n ≤ 9223372036854775807) (k : Int) (hk : -9223372036854775808 ≤ k ∧ k ≤ 9223372036854775807) :
    Calls Try.prog 3 #[.slice G n c, .int .i64 k] w fun e w' => e = .returned (.bool true) ∧ Kp w w' := by
  replace h := Aside.mk h
  replace hty := Aside.mk hty
  replace hn := Aside.mk hn
  go_enter Try.func3, Try.ntmps3
  go_wp2_with fail
  refine Calls.mono (awake09_calls _) ?_
  rintro e w1 ⟨rfl, k1⟩
  go_wp2_with fail
  refine Calls.mono (Few_calls (h.out.kp k1) hty.out hn.out hl) ?_
  rintro e w2 ⟨b, rfl, hb, k2⟩
  have k02 := Aside.mk (k1.trans k2)
  clear k1 k2
  cases b with
  | false =>
    clear hb
    go_wp2_with fail
    refine Calls.mono (awake09_calls _) ?_
    rintro e w3 ⟨rfl, k3⟩
    go_wp2_with fail
    go_ret
    exact ⟨rfl, k02.out.trans k3⟩
  | true =>
  obtain ⟨h12, hf⟩ := hb.1 rfl
  replace hf : Aside (∀ o ∈ os, o.wf) := ⟨fun o ho => (hty.out o ho).wf (hf o ho)⟩
  clear hb
  by_cases h0 : n = 0
  · have g0 : decide ((n : Int) = 0) = true := decide_eq_true (by omega)
    have g1 : ((n : Int) == 0) = true := by simp [h0]
    go_wp2_with fail
    refine Calls.mono (awake09_calls _) ?_
    rintro e w3 ⟨rfl, k3⟩
    go_wp2_with fail
    go_ret
    exact ⟨rfl, k02.out.trans k3⟩
  have g1 : ((n : Int) == 0) = false := by simp; omega
  obtain ⟨j, hj, hje⟩ := turn_count k h0 (show n ≤ 1000 by omega)
  obtain ⟨L, hLo, hLc, hLg⟩ := (h.out.kp k02.out).rows
  have hne : os ≠ [] := by intro e; have := hn.out; rw [e] at this; simp at this; omega
  obtain ⟨g, off, rfl, hg, hcell⟩ := hLc hne
  have hLn : L.length = n := by rw [← hn.out, ← hLo, List.length_map]
  have hnc := hsl.1
  have hn1 : Aside (∀ V, Kp w2 V → ∀ ad, some (⟨g, off + j * 4, none⟩ : Addr) = some ad → ∀ i u, ((L.drop j).flatMap ObjC.cells)[i]? = some u → V.cell? (ad.add i) = some u) := ⟨fun V hV ad e i u hu => by
    obtain rfl := Option.some.inj e
    exact cells_from (fun i y hy j hj => (hV.cell (p := ⟨g, off + i * 4 + j, none⟩) hg).trans (hcell i y hy j hj)) (L.drop j) (fun i y hy => by rwa [List.getElem?_drop] at hy) i u hu⟩
  have hn2 : Aside (∀ V, Kp w2 V → ∀ ad, some (⟨g, off, none⟩ : Addr) = some ad → ∀ i u, ((L.take j).flatMap ObjC.cells)[i]? = some u → V.cell? (ad.add i) = some u) := ⟨fun V hV ad e i u hu => by
    obtain rfl := Option.some.inj e
    have := cells_from (j := 0) (fun i y hy j hj => (hV.cell (p := ⟨g, off + i * 4 + j, none⟩) hg).trans (hcell i y hy j hj)) (L.take j) (fun i y hy => by rw [Nat.zero_add]; rw [List.getElem?_take] at hy; split at hy; exact hy; cases hy) i u hu
    simpa using this⟩
  have hl1 : ((L.drop j).flatMap ObjC.cells).length = (n - j) * 4 := by rw [flat_len ObjC.cells_len, List.length_drop, hLn]
  have hl2 : ((L.take j).flatMap ObjC.cells).length = j * 4 := by rw [flat_len ObjC.cells_len, List.length_take, hLn, Nat.min_eq_left (by omega)]
  replace hcell := Aside.mk hcell
  replace hLg := Aside.mk hLg
  replace hLo := Aside.mk hLo
  replace hje := Aside.mk hje
  clear hLc hsl
  have jn : j ≤ n := by omega
  have cj : ¬c = j := by omega
  have jc : j ≤ c := by omega
  go_upto_region 4 with fail
  rw [hje.out]
  refine wp_hide (fun Q0 hQ0 => ?_)
  refine wp_region_held_drew (S := fun V => Kp w2 V) (by kernel_rfl) ?hS0a (fun hHeld => ?_)
  case hS0a => exact (Kp.refl w2).drew
  refine wpAnyH_takeL (i := 1) (v := ?v1a) rfl (by kernel_rfl) (by kernel_rfl) (by kernel_rfl) (fun _ _ _ h => h) (Or.inl ⟨by kernel_rfl, ?hy1a⟩) (by assumption) ?rest1a
  case hy1a => (intro w hSw; (try dsimp only at hSw); go_simp; (try with_reducible rfl))
  try simp only [Act.put, List.setIfInBounds_toArray, List.set_cons_zero, List.set_cons_succ]
  refine wpAnyH_takeL (i := 2) (v := ?v2a) rfl (by kernel_rfl) (by kernel_rfl) (by kernel_rfl) (fun _ _ _ h => h) (Or.inl ⟨by kernel_rfl, ?hy2a⟩) (by assumption) ?rest2a
  case hy2a => (intro w hSw; (try dsimp only at hSw); go_simp; (try with_reducible rfl))
  try simp only [Act.put, List.setIfInBounds_toArray, List.set_cons_zero, List.set_cons_succ]
  refine wpAnyH_takeL (i := 3) (v := ?v3a) rfl (by kernel_rfl) (by kernel_rfl) (by kernel_rfl) (fun _ _ _ h => h) (Or.inl ⟨by kernel_rfl, ?hy3a⟩) (by assumption) ?rest3a
  case hy3a => (intro w hSw; (try dsimp only at hSw); go_simp; (try with_reducible rfl))
  try simp only [Act.put, List.setIfInBounds_toArray, List.set_cons_zero, List.set_cons_succ]
  refine wpAnyH_takeL (i := 5) (v := ?v5a) rfl (by kernel_rfl) (by kernel_rfl) (by kernel_rfl) (fun _ _ _ h => h) (Or.inl ⟨by kernel_rfl, ?hy5a⟩) (by assumption) ?rest5a
  case hy5a => (intro w hSw; (try dsimp only at hSw); go_simp; (try with_reducible rfl))
  try simp only [Act.put, List.setIfInBounds_toArray, List.set_cons_zero, List.set_cons_succ]
  refine wpAnyH_takeL (i := 6) (v := ?v6a) rfl (by kernel_rfl) (by kernel_rfl) (by kernel_rfl) (fun _ _ _ h => h) (Or.inl ⟨by kernel_rfl, ?hy6a⟩) (by assumption) ?rest6a
  case hy6a => (intro w hSw; (try dsimp only at hSw); go_simp; (try with_reducible rfl))
  try simp only [Act.put, List.setIfInBounds_toArray, List.set_cons_zero, List.set_cons_succ]
  refine wpAnyH_takeL (i := 7) (v := ?v7a) rfl (by kernel_rfl) (by kernel_rfl) (by kernel_rfl) (fun _ _ _ h => h) (Or.inl ⟨by kernel_rfl, ?hy7a⟩) (by assumption) ?rest7a
  case hy7a => (intro w hSw; (try dsimp only at hSw); go_simp; (try with_reducible rfl))
  try simp only [Act.put, List.setIfInBounds_toArray, List.set_cons_zero, List.set_cons_succ]
  refine wpAnyH_ready (rs := [0]) (by kernel_rfl) (by simp) ?_
  refine AllReadyH.consL rfl (fun Kx hKx => ?_) AllReadyH.nil
  go_simp
  refine hKx.out _ _ (((Kp.refl w2).alloc _).drew) (fun hHeld => ?_)
  clear hKx
  try simp only [Act.put, List.setIfInBounds_toArray, List.set_cons_zero, List.set_cons_succ]
  refine wpAnyH_ready (rs := [4]) (by kernel_rfl) (by simp) ?_
  refine AllReadyH.consL rfl (fun Kx hKx => ?_) AllReadyH.nil
  have hown0 : ((w2.alloc (.cells #[] 38)).drew).ownsRow w2.heap.size 38 4 (.slice (some ⟨w2.heap.size, 0, none⟩) 0 0) 0 [] := World.ownsRow.drew (World.ownsRow_lit w2 #[] 0 (Nat.le_refl _) (by decide) rfl)
  refine step_app rfl (.tmp 31) (.tmp 34) 22 rfl w2.heap.size 38 4 96 Try.underlying22 info_obj (by decide) _ 0 [] rfl hown0 (some ⟨g, off + j * 4, none⟩) (n - j) (c - j) ((L.drop j).flatMap ObjC.cells) rfl (fun e => by cases e) hl1 (hn1.out _ (((Kp.refl w2).alloc _).drew)) (cells_ones _) (by omega) (by omega) (((Kp.refl w2).alloc _).drew.size) ?_
  intro v1 w3 hown1 hg1
  have kp3 : Kp w2 w3 := (((Kp.refl w2).alloc _).drew).grown hg1 (fun k e => by cases e; exact Nat.le_refl _)
  refine hKx.out _ _ kp3 (fun hHeld => ?_)
  clear hKx
  try simp only [Act.put, List.setIfInBounds_toArray, List.set_cons_zero, List.set_cons_succ]
  refine wpAnyH_ready (rs := [8]) (by kernel_rfl) (by simp) ?_
  refine AllReadyH.consL rfl (fun Kx hKx => ?_) AllReadyH.nil
  refine step_app rfl (.tmp 35) (.tmp 38) 22 rfl w2.heap.size 38 4 96 Try.underlying22 info_obj (by decide) v1 (0 + (n - j)) ([] ++ (L.drop j).flatMap ObjC.cells) rfl hown1 (some ⟨g, off, none⟩) j c ((L.take j).flatMap ObjC.cells) rfl (fun e => by cases e) hl2 (hn2.out _ kp3) (cells_ones _) (by omega) (by omega) kp3.size ?_
  intro v2 w4 hown2 hg2
  have kp4 : Kp w2 w4 := kp3.grown hg2 (own_ge hown1)
  refine hKx.out _ _ kp4 (fun hHeld => ?_)
  clear hKx
  try simp only [Act.put, List.setIfInBounds_toArray, List.set_cons_zero, List.set_cons_succ]
  refine wpAnyH_takeL (i := 9) (v := ?v9a) rfl (by kernel_rfl) (by kernel_rfl) (by kernel_rfl) (fun _ _ _ h => h) (Or.inl ⟨by kernel_rfl, ?hy9a⟩) (by assumption) ?rest9a
  case hy9a => (intro w hSw; (try dsimp only at hSw); go_simp; (try with_reducible rfl))
  try simp only [Act.put, List.setIfInBounds_toArray, List.set_cons_zero, List.set_cons_succ]
  refine wpAnyH_done (by kernel_rfl) (hQ0.out _ _ ?_) _
  rw [List.nil_append, ← List.flatMap_append, show 0 + (n - j) + j = n by omega] at hown2
  obtain ⟨G2, c2, rfl, hoc⟩ := ownL_form hown2
  have hos2 : ObjsAt w4 G2 ((L.drop j ++ L.take j).map (·.o)) := by
    obtain ⟨g2, rfl, -, hg2l, hcc⟩ := hoc (by intro e; have := congrArg List.length e; rw [flat_len ObjC.cells_len, List.length_append, List.length_drop, List.length_take] at this; simp at this; omega)
    refine ObjsAt.of_rows hg2l (fun i x hx => by rw [Nat.zero_add]; exact hcc i x hx (by have := (List.getElem?_eq_some_iff.1 hx).1; rw [flat_len ObjC.cells_len, List.length_append, List.length_drop, List.length_take] at this; omega)) (fun y hy => ?_)
    refine (hLg.out y ?_).kp kp4
    rcases List.mem_append.1 hy with hy | hy
    · exact List.mem_of_mem_drop hy
    · exact List.mem_of_mem_take hy
  have hperm : Aside (os.Perm ((L.drop j ++ L.take j).map (·.o))) := ⟨by rw [← hLo.out]; exact (turn_perm L j).map _⟩
  have hn2' : ((L.drop j ++ L.take j).map (·.o)).length = n := by rw [← hperm.out.length_eq, hn.out]
  have hwf2 : ∀ o ∈ (L.drop j ++ L.take j).map (·.o), o.wf := fun o ho => hf.out o (hperm.out.mem_iff.2 ho)
  have kk4 := Aside.mk (k02.out.trans kp4)
  have lc1 := Aside.mk (Link_calls (c := c) (h.out.kp kk4.out) hf.out hn.out (show n ≤ 1000 by omega))
  have lc2 := Aside.mk (fun (V : World) (hV : Kp w4 V) => Link_calls (c := c2) (hos2.kp hV) hwf2 hn2' (show n ≤ 1000 by omega))
  clear hown1 hown2 hg1 hg2 hoc hos2 hHeld hn1 hn2 hl1 hl2 hown0 kp3 kp4 hwf2
  go_wp2_with fail
  refine Calls.mono lc1.out ?_
  rintro e w5 hR1
  obtain ⟨k5, A1, n1, c1, E1, rfl⟩ := linkR_form hR1
  have k45 : Kp w4 (w5.alloc (.cells #[.int .i64 0, .slice A1 n1 c1] 28)) := k5.alloc _
  have b1 := Aside.mk (Blk.new w5 #[.int .i64 0, .slice A1 n1 c1] 28)
  replace hR1 := Aside.mk hR1
  replace lc2 := Aside.mk (lc2.out _ k45)
  replace kk4 := Aside.mk (kk4.out.trans k45)
  clear k45 k5 lc1
  unfold lnkOut
  go_wp2_with fail
  refine Calls.mono lc2.out ?_
  rintro e w6 hR2
  obtain ⟨k6, A2, n2, c2', E2, rfl⟩ := linkR_form hR2
  have hcase := order_out hperm.out hR1.out hR2
  have kk6 := Aside.mk (kk4.out.trans (k6.alloc (.cells #[.int .i64 0, .slice A2 n2 c2'] 28)))
  have b2 := Blk.new w6 #[.int .i64 0, .slice A2 n2 c2'] 28
  have b1' := b1.out.kp (k6.alloc (.cells #[.int .i64 0, .slice A2 n2 c2'] 28))
  have e1 : (w6.alloc (.cells #[.int .i64 0, .slice A2 n2 c2'] 28)).cell? ⟨w5.heap.size, 1, none⟩ = some (.slice A1 n1 c1) := b1'.cell 1
  have e2 : (w6.alloc (.cells #[.int .i64 0, .slice A2 n2 c2'] 28)).cell? ⟨w6.heap.size, 1, none⟩ = some (.slice A2 n2 c2') := b2.cell 1
  clear hR1 hR2 lc2 k6 b1 b2 b1' kk4
  unfold lnkOut
  rcases hcase with ⟨rfl, h7, rfl⟩ | ⟨rfl, rfl | rfl⟩ | ⟨rfl, rfl⟩
  · have g7 : (E1 == 7) = false := beq_eq_false_iff_ne.2 h7
    clear h7
    go_wp2_with fail
    all_goals go_ret
    all_goals exact ⟨rfl, kk6.out⟩
  all_goals
    go_wp2_with fail
    all_goals go_ret
    all_goals exact ⟨rfl, kk6.out⟩
section
variable {H : Type} {enc : TypeId × Value → H} {W : World} {base : Nat}
set_option maxRecDepth 100000 in
theorem order_law {v : Value} {d : DataW H} {p : List MemPlace} (hv : Value.okWide Try.prog W .any base 22 v) (h : DataW.Trod enc Try.prog W 0 (fun _ => true) true 22 v d p) (n : Int) (w1 : (Lit.int .i64 n).wf = true) :
    Calls Try.prog 3 #[v, .int .i64 n] W fun e w' => e = .returned (.bool true) ∧ Below W.heap.size W w' := by
  obtain ⟨G, c, os, rfl, hs, ho, hty, hl⟩ := objs_open hv h
  exact (order_any ho hs hty rfl hl n (i64_of w1)).mono fun _ _ ⟨he, hk⟩ => ⟨he, hk.out⟩
end
end Go.Proofs.Ytnbooljaodkedaa
