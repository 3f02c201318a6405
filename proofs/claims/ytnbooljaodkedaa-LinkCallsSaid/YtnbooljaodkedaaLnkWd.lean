/- Words of instructions in a row; a slice behind a row: walked. Conditions stand at each. -/
import Derived.Test.YtnbooljaodkedaaLnkFw
namespace Go.Proofs.Ytnbooljaodkedaa
open Go.RowKit Go.Maps Go.Proofs.Ytnbooljaodkedaa.PC Go.Proofs.Ytnbooljaodkedaa.PW
set_option linter.unusedVariables false
set_option linter.unusedSimpArgs false
set_option maxRecDepth 100000 in
set_option maxHeartbeats 4000000 in
theorem Words_row {w : World} {I : Nat} {c : Nat} (l : List Ins) (hl : l.length ≤ 10000) (hok : ∀ i ∈ l, i.ok) (hI0 : I < w.heap.size) (hb : ∀ j x, (insC l)[j]? = some x → w.cell? ⟨I, j, none⟩ = some x) (hc : l.length ≤ c) :
    Calls Try.prog 12 #[.slice (some ⟨I, 0, none⟩) l.length c] w fun e w' => ∃ v, e = .returned v ∧ Kp w w' ∧ w'.ownsRow w.heap.size 44 1 v l.length (u32V (wordsL l)) := by
  replace hok := Aside.mk hok
  replace hb := Aside.mk hb
  generalize hm : l.length = m at *
  replace hm := Aside.mk hm
  go_enter Try.func12, Try.ntmps12
  go_wp2
  go_loopw [3, 10] (fun v i wr => ∃ k : Nat, k ≤ m ∧ i = .int .i64 k ∧ Kp w wr ∧ wr.ownsRow w.heap.size 44 1 v k (u32V (wordsL (l.take k)))) (fun _ i _ => m - (intOf i).toNat)
  case atStart => exact ⟨0, Nat.zero_le _, rfl, Kp.refl _, World.ownsRow_nil _ _ _ _⟩
  case round =>
    obtain ⟨k, hk, rfl, kp, hown⟩ := hrel
    by_cases hlt : k < m
    · have hkl : k < l.length := by have := hm.out; omega
      have hokk := hok.out _ (List.getElem_mem hkl)
      have hI := hI0
      have hI' := Nat.lt_of_lt_of_le hI kp.size
      have cg : ∀ j, j < 5 → wr.cell? ⟨I, k * 5 + j, none⟩ = (l[k]).cs[j]? := fun j hj => by
        have e := insC_get l k hkl j hj
        rw [← e]
        obtain ⟨x, hx⟩ : ∃ x, (insC l)[k * 5 + j]? = some x := by rw [e]; exact match j, hj with | 0, _ => ⟨_, rfl⟩ | 1, _ => ⟨_, rfl⟩ | 2, _ => ⟨_, rfl⟩ | 3, _ => ⟨_, rfl⟩ | 4, _ => ⟨_, rfl⟩
        rw [hx]
        exact (kp.cell (p := ⟨I, k * 5 + j, none⟩) hI0).trans (hb.out _ _ hx)
      have c0 := cg 0 (by decide)
      have c1 := cg 1 (by decide)
      have c2 := cg 2 (by decide)
      have c3 := cg 3 (by decide)
      have c4 := cg 4 (by decide)
      have hsn := Aside.mk (words_snoc hkl)
      obtain ⟨x, hx⟩ : ∃ x, l[k] = x := ⟨_, rfl⟩
      rw [hx] at c0 c1 c2 c3 c4 hokk
      obtain ⟨op, rd, rs1, rs2, n⟩ := x
      simp only [Ins.cs, Nat.add_zero, List.getElem?_cons_zero, List.getElem?_cons_succ] at c0 c1 c2 c3 c4
      replace hx := Aside.mk hx
      have ec := fun w => rEncode_calls op rd rs1 rs2 n hokk.m w
      have he : insE op rd rs1 rs2 n = 0 := hokk.e
      rw [he] at ec
      clear he
      obtain ⟨a, ha⟩ : ∃ a, Aside (insW op rd rs1 rs2 n = a) := ⟨_, ⟨rfl⟩⟩
      rw [ha.out] at ec
      replace ec := Aside.mk ec
      replace hokk := Aside.mk hokk
      have s1 := kp.size
      clear cg
      have xr : 0 ≤ a ∧ a ≤ 4294967295 := by rw [← ha.out]; exact insW_u op rd rs1 rs2 n
      go_wp2_with fail
      refine Calls.mono (ec.out _) ?_
      rintro e w2 ⟨rfl, k2⟩
      have kp2 := Aside.mk ((kp.alloc (.cells #[.int .i64 op, .int .i64 rd, .int .i64 rs1, .int .i64 rs2, .int .i64 n] 40)).trans k2)
      have hown2 := row_at hown (w' := w2) (fun j _ hj => (((Kp.refl _).alloc _).trans k2).block hj)
      clear k2 hown kp c0 c1 c2 c3 c4
      have s2 := kp2.out.size
      go_wp2_with ((at_builtin); (refine wpList_pushm rfl (.tmp 21) (.tmp 23) 34 rfl w.heap.size 44 1 4 1 Try.underlying34 info_u32 (by decide) (by decide) u3 k (u32V (wordsL (l.take k))) ?_ ?_ ?_ ?_ ?_ ?_ ?_ ?_ ?_ ?_ ?_ ?_ ?_); (rfl); (focus repeat (first | assumption | refine World.ownsRow.drew ?_ | refine World.ownsRow.alloc ?_ _)); (rotate_left 3); (rfl); (refine heap_new ?_); (rfl); (rfl); (simp [Value.oneCell']); (omega); (omega); (simp only [World.size_alloc]; omega); (intro gf capf wf hof hgf hgf' hltf); (have kpn := Aside.mk (show Kp w wf from Kp.grown ((kp2.out).alloc _) hgf (own_ge hown2))))
      go_roundw
      case rel =>
        have e := hsn.out
        rw [hx.out] at e
        have e2 : u32V (wordsL (l.take (k + 1))) = u32V (wordsL (l.take k)) ++ [.int .u32 a] := by rw [e, show (⟨op, rd, rs1, rs2, n⟩ : Ins).word = insW op rd rs1 rs2 n from rfl, ha.out]
        exact ⟨k + 1, by omega, by go_num, kpn.out, by rw [e2]; exact hof⟩
      case measure => simp [intOf]; omega
    · obtain rfl : k = m := by omega
      go_wp2
      go_ret
      refine ⟨_, rfl, kp, ?_⟩
      rw [List.take_of_length_le (by have := hm.out; omega)] at hown
      exact hown
theorem Words_rown {w : World} {I c m : Nat} (l : List Ins) (hm : l.length = m) (hl : m ≤ 10000) (hok : ∀ i ∈ l, i.ok) (hI0 : I < w.heap.size) (hb : ∀ j x, (insC l)[j]? = some x → w.cell? ⟨I, j, none⟩ = some x) (hc : m ≤ c) :
    Calls Try.prog 12 #[.slice (some ⟨I, 0, none⟩) m c] w fun e w' => ∃ v, e = .returned v ∧ Kp w w' ∧ w'.ownsRow w.heap.size 44 1 v l.length (u32V (wordsL l)) := by
  subst hm
  exact Words_row l hl hok hI0 hb hc
theorem own_cap {w : World} {base g n cap size : Nat} {e : TypeId} {xs : List Value} (h : w.ownsRow base e size (.slice (some ⟨g, 0, none⟩) n cap) n xs) : n ≤ cap := by
  rcases h.2 with ⟨h, _⟩ | ⟨g', cap', cur, h', _, _, hc, _⟩
  · cases h
  · injection h' with _ _ e3
    omega
section
variable {P : Program} {ops : Array Oper} {rest : List Oper} {o : Oper} {a : Act} {w : World} {Q : Exit → Act → World → Prop}
/-- A whole slice behind a row of the call's own, in a plain region. -/
theorem wpList_app (hgd : o.guard = none) (s x : Operand) (t : TypeId) (ho : o.op = .call { callee := .builtin .append, args := #[s, x], argTypes := #[t, t] })
    (base : Nat) (e : TypeId) (size bytes : Nat) (ht : P.underlying t = some (.slice e)) (hinfo : ∃ i z, P.info? e = some i ∧ i.zero = some z ∧ i.size = size ∧ i.bytes = bytes ∧ z.cells.size = size) (hsz : 0 < size)
    (v : Value) (n : Nat) (xs : List Value) (hs : a.eval s = v) (hown : w.ownsRow base e size v n xs)
    (A : Option Addr) (m c : Nat) (news : List Value) (hx : a.eval x = .slice A m c) (hA : A = none → m = 0 ∧ c = 0) (hl : news.length = m * size) (hnews : ∀ ad, A = some ad → ∀ j u, news[j]? = some u → w.cell? (ad.add j) = some u) (h1 : ∀ u ∈ news, u.oneCell' = true)
    (hbytes : (n + m) * bytes ≤ 140737488355328) (hmax : n + m ≤ 140737488355328) (hbase : base ≤ w.heap.size)
    (h : ∀ v' w', w'.ownsRow base e size v' (n + m) (xs ++ news) → w.grownBy w' v.ownBlock → wpList P ops Q rest (a.put o.dst v') w') :
    wpList P ops Q (o :: rest) a w := by
  refine wpList_plain hgd fun K hK => ?_
  have := step_app (P := P) (ops := ops) (o := o) (a := a) (w := w) (K := K) (Q := Q) (E := True) hgd s x t ho base e size bytes ht hinfo hsz v n xs hs hown A m c news hx hA hl hnews h1 hbytes hmax hbase (fun v' w' g1 g2 => hK _ _ (h v' w' g1 g2))
  rwa [if_pos (by simp [Region.wanted, hgd])] at this
end
end Go.Proofs.Ytnbooljaodkedaa
