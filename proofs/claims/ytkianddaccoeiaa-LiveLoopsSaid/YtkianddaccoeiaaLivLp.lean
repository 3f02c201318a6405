/- LiveLoops, walked. No condition. -/
import Derived.Test.YtkianddaccoeiaaLivAw
import Derived.Test.YtkianddaccoeiaaPlainLoop
import Derived.Test.YtkianddaccoeiaaRvD
namespace Go.Proofs.Ytkianddaccoeiaa
open Go.RowKit Go.Maps Go.Proofs.Ytkianddaccoeiaa.PL
set_option linter.unusedVariables false
set_option linter.unusedSimpArgs false
set_option maxRecDepth 100000 in
theorem info_ins : ∃ i z, Try.prog.info? 35 = some i ∧ i.zero = some z ∧ i.size = 9 ∧ i.bytes = 96 ∧ z.cells.size = 9 := ⟨_, _, rfl, rfl, rfl, rfl, rfl⟩
def insV (l : List InsV) : List Value := (bare l).flatMap InsC.cells
theorem insV_append (a b : List InsV) : insV (a ++ b) = insV a ++ insV b := by simp [insV, bare]
/-- Elements more, given by the block that holds them. -/
theorem wpList_pushm {P : Program} {ops : Array Oper} {rest : List Oper} {o : Oper} {a : Act} {w : World} {Q : Exit → Act → World → Prop} (hgd : o.guard = none) (s x : Operand) (t : TypeId) (ho : o.op = .call { callee := .builtin .append, args := #[s, x], argTypes := #[t, t] })
    (base : Nat) (e : TypeId) (size bytes : Nat) (ht : P.underlying t = some (.slice e)) (hinfo : ∃ i z, P.info? e = some i ∧ i.zero = some z ∧ i.size = size ∧ i.bytes = bytes ∧ z.cells.size = size) (hsz : 0 < size)
    (v : Value) (n : Nat) (xs : List Value) (hs : a.eval s = v) (hown : w.ownsRow base e size v n xs)
    (B m : Nat) (hm : 0 < m) (cs : Array Value) (hx : a.eval x = .slice (some ⟨B, 0, none⟩) m m) (hb : w.heap[B]? = some (.cells cs e)) (hl : cs.size = m * size) (h1 : ∀ u ∈ cs.toList, u.oneCell' = true)
    (hbytes : (n + m) * bytes ≤ 140737488355328) (hmax : n + m ≤ 140737488355328) (hbase : base ≤ w.heap.size) (N : Nat) (hN : n + m = N)
    (h : ∀ g cap w', w'.ownsRow base e size (.slice (some ⟨g, 0, none⟩) N cap) N (xs ++ cs.toList) → w.grownBy w' v.ownBlock → (v.ownBlock = some g ∨ g = w.heap.size) → g < w'.heap.size → wpList P ops Q rest (a.put o.dst (.slice (some ⟨g, 0, none⟩) N cap)) w') :
    wpList P ops Q (o :: rest) a w := by
  subst hN
  obtain ⟨i, z, hi, hz, hsize, hby, hzs⟩ := hinfo
  exact wpList_append_lies w hgd s x t ho base e i z size bytes ht hi hz hsize hby hzs hsz v n xs hs hown ⟨B, 0, none⟩ m m cs.toList hx (by simpa using hl) (news_of hb) h1 hm (by unfold maxLen; omega) hbytes hbase _ rfl h
theorem insV_one (l : List InsV) : ∀ u ∈ insV l, u.oneCell' = true := by
  intro u hu
  obtain ⟨y, -, hu⟩ := List.mem_flatMap.1 hu
  simp only [InsC.cells, List.mem_cons, List.not_mem_nil, or_false] at hu
  rcases hu with rfl | rfl | rfl | rfl | rfl | rfl | rfl | rfl | rfl <;> rfl
def lpK (k gk gc c : Nat) : FunC := ⟨lpF k, none, 0, some ⟨gk, 0, none⟩, 3, none, 0, some ⟨gc, 0, none⟩, c, bare (lpF k).code⟩
def lpFC (gk : Nat) (A : Option Addr) (n c : Nat) : Array Value := #[.string ⟨#[102]⟩, .bool false, .slice none 0 0, .slice (some ⟨gk, 0, none⟩) 3 3, .slice none 0 0, .slice A n c]
theorem lpK_cells (k gk gc c : Nat) : (lpK k gk gc c).cells = lpFC gk (some ⟨gc, 0, none⟩) (2 * k + 5) c := by
  have e : (lpK k gk gc c).f.code.length = 2 * k + 5 := lp_len k
  unfold FunC.cells
  rw [e]
  rfl
/-- The function, in blocks of its own. -/
theorem lp_funAt {w : World} {k gk base gc c : Nat} (hK : Blk w gk #[.int .i64 1, .int .i64 1, .int .i64 1] 3) (ho : w.ownsRow base 35 9 (.slice (some ⟨gc, 0, none⟩) (2 * k + 5) c) (2 * k + 5) (insV (lpF k).code)) : FunAt w (lpK k gk gc c) ∧ ∀ n i, (lpF k).code[n]? = some i → w.cell? ⟨gc, n * 9, none⟩ = some (.int .i64 i.op) := by
  rcases ho.2 with ⟨h1, -⟩ | ⟨g, cap, cur, h1, h2, h3, h4, h5, h6, h7⟩
  · cases h1
  simp only [Value.slice.injEq, Option.some.injEq, Addr.mk.injEq, true_and, and_true] at h1
  obtain ⟨rfl, rfl⟩ := h1
  have hl := lp_len k
  have hcell : ∀ n y, (bare (lpF k).code)[n]? = some y → ∀ j, j < 9 → w.cell? ⟨gc, 0 + n * 9 + j, none⟩ = y.cells[j]? := fun n y hy j hj => by
    have hn : n < 2 * k + 5 := by
      have := (List.getElem?_eq_some_iff.1 hy).1
      simp only [bare, List.length_map, hl] at this
      exact this
    have := cells9_at (bare (lpF k).code) n j hj
    rw [hy] at this
    have h8 := congrArg (fun L => L[n * 9 + j]?) h7
    simp only [List.getElem?_take] at h8
    rw [if_pos (by omega)] at h8
    unfold insV at h8
    rw [this] at h8
    rw [Nat.zero_add]
    simp only [World.cell?, h3]
    simpa using h8
  refine ⟨⟨fun h => absurd rfl h, fun _ => ⟨gk, 0, rfl, hK.lt, fun i hi => ?_⟩, fun h => absurd rfl h, fun _ => ⟨gc, 0, rfl, (Array.getElem?_eq_some_iff.1 h3).1, hcell⟩, bare_i _, fun y hy => ?_, ⟨Nat.le_refl _, fun _ => ⟨rfl, rfl⟩⟩, ⟨Nat.le_refl _, fun h => by cases h⟩, ⟨Nat.le_refl _, fun _ => ⟨rfl, rfl⟩⟩, ⟨by show (lpF k).code.length ≤ c; rw [hl]; exact h4, fun h => by cases h⟩⟩, fun n i hi => ?_⟩
  · rw [Nat.zero_add, hK.cell i]
    have hi' : i < 3 := hi
    match i, hi' with
    | 0, _ => rfl
    | 1, _ => rfl
    | 2, _ => rfl
  · obtain ⟨i, hi, rfl⟩ := List.mem_map.1 hy
    have := lp_args hi
    exact ⟨fun h => absurd this h, by simp only [this]; exact ⟨Nat.le_refl _, fun _ => ⟨rfl, rfl⟩⟩⟩
  · have := hcell n ⟨i, none, 0⟩ (by simp [bare, hi]) 0 (by decide)
    simpa [InsC.cells] using this
def LpL (k : Nat) (w : World) (e : Ending) (w' : World) : Prop := ∃ g, e = .returned (.slice (some ⟨g, 0, none⟩) (2 * k + 5) (2 * k + 5)) ∧ Kp w w' ∧ g < w'.heap.size ∧ ∀ n, n < 2 * k + 5 → ∃ A c, w'.cell? ⟨g, n, none⟩ = some (.slice A (lpN k n) c) ∧ ∀ j, j < lpN k n → ∃ ga oa, A = some ⟨ga, oa, none⟩ ∧ ga < w'.heap.size ∧ w'.cell? ⟨ga, oa + j, none⟩ = some (.int .i64 j)
theorem lp_lives {w : World} {k gk gc c : Nat} (hk : k < 20) (h : FunAt w (lpK k gk gc c)) : Calls Try.prog 8 #[.agg (lpFC gk (some ⟨gc, 0, none⟩) (2 * k + 5) c)] w (LpL k w) := by
  rw [← lpK_cells]
  have hl : (lpK k gk gc c).f.code.length = 2 * k + 5 := lp_len k
  refine (Live_calls (lpK k gk gc c) w h (lp_ok k) (by rw [hl]; omega) (by show (3 : Nat) ≤ 10000; decide) (fun i hi => by rw [lp_args (m := k) hi]; exact Nat.zero_le _)).mono ?_
  rintro e w' ⟨g, H, rfl, hg, hR, hkp⟩
  rw [hl] at hR ⊢
  have hlist : ∀ n, listI (lpK k gk gc c).f.kinds.length (liveB (lpK k gk gc c).f n) = (List.range (lpN k n)).map fun r : Nat => (r : Int) := lp_list k
  refine ⟨g, rfl, hkp, hR.row.lt, fun n hn => ⟨(H n).1, (H n).2, ?_, fun j hj => ?_⟩⟩
  · rw [hR.row.cell n, rowsC_at hn, if_pos hn, hlist n]
    simp
  · have ho := hR.own n hn
    rw [hlist n] at ho
    obtain ⟨A, c2, e, hi, -⟩ := own_ints ho rfl
    simp only [Value.slice.injEq, true_and] at e
    obtain ⟨e, -⟩ := e
    rw [← e] at hi
    obtain ⟨ga, oa, e2, hga, hc⟩ := hi.one (k := j) (by simpa using hj)
    refine ⟨ga, oa, e2, hga, hc.trans ?_⟩
    simp [List.getD_eq_getElem?_getD, hj]
theorem lp_m (n : Int) : ∃ m : Nat, m < 20 ∧ wrap64 ((IntKind.u64.wrap n).tmod 20) = (m : Int) := by
  have e : IntKind.u64.wrap n = n % 18446744073709551616 := IntKind.wrap_u64 n
  have h0 : 0 ≤ IntKind.u64.wrap n := by rw [e]; omega
  rw [Int.tmod_eq_emod_of_nonneg h0]
  generalize IntKind.u64.wrap n = u at *
  refine ⟨(u % 20).toNat, by omega, ?_⟩
  unfold wrap64
  omega
set_option maxRecDepth 100000 in
set_option maxHeartbeats 4000000 in
theorem loops_calls (n : Int) (hn : -9223372036854775808 ≤ n ∧ n ≤ 9223372036854775807) (w : World) : Calls Try.prog 4 #[.int .i64 n] w fun e w' => e = .returned (.bool true) ∧ Kp w w' := by
  go_enter Try.func4, Try.ntmps4
  have haw := Aside.mk (awake19_calls)
  go_upto_region 4 with fail
  refine Calls.mono (haw.out _) ?_
  rintro e w1 ⟨rfl, k1⟩
  go_upto_region 5 with fail
  obtain ⟨m, hm, em⟩ : ∃ m : Nat, m < 20 ∧ wrap64 ((IntKind.u64.wrap n).tmod 20) = (m : Int) := lp_m n
  rw [em]
  have B0 := Blk.new w1 #[.int .i64 1, .int .i64 1, .int .i64 1] 3
  have B1 := Blk.new (w1.alloc (.cells #[.int .i64 1, .int .i64 1, .int .i64 1] 3)) (insV (lpPre 0)).toArray 35
  rw [World.size_alloc] at B1
  have B2 := Blk.new ((w1.alloc (.cells #[.int .i64 1, .int .i64 1, .int .i64 1] 3)).alloc (.cells (insV (lpPre 0)).toArray 35)) (lpFC w1.heap.size (some ⟨w1.heap.size + 1, 0, none⟩) 1 1) 25
  rw [World.size_alloc, World.size_alloc] at B2
  replace B0 := (B0.alloc (.cells (insV (lpPre 0)).toArray 35)).alloc (.cells (lpFC w1.heap.size (some ⟨w1.heap.size + 1, 0, none⟩) 1 1) 25)
  replace B1 := B1.alloc (.cells (lpFC w1.heap.size (some ⟨w1.heap.size + 1, 0, none⟩) 1 1) 25)
  have kp := Aside.mk (((k1.alloc (.cells #[.int .i64 1, .int .i64 1, .int .i64 1] 3)).alloc (.cells (insV (lpPre 0)).toArray 35)).alloc (.cells (lpFC w1.heap.size (some ⟨w1.heap.size + 1, 0, none⟩) 1 1) 25))
  show Code.wp Try.prog _ _ _ (((w1.alloc (.cells #[.int .i64 1, .int .i64 1, .int .i64 1] 3)).alloc (.cells (insV (lpPre 0)).toArray 35)).alloc (.cells (lpFC w1.heap.size (some ⟨w1.heap.size + 1, 0, none⟩) 1 1) 25))
  generalize ((w1.alloc (.cells #[.int .i64 1, .int .i64 1, .int .i64 1] 3)).alloc (.cells (insV (lpPre 0)).toArray 35)).alloc (.cells (lpFC w1.heap.size (some ⟨w1.heap.size + 1, 0, none⟩) 1 1) 25) = W at *
  have hgk : Aside (w.heap.size ≤ w1.heap.size) := ⟨k1.size⟩
  have own0 : Aside (W.ownsRow w.heap.size 35 9 (.slice (some ⟨w1.heap.size + 1, 0, none⟩) 1 1) 1 (insV (lpPre 0))) := ⟨rfl, Or.inr ⟨_, 1, _, rfl, by have := k1.size; omega, B1, Nat.le_refl _, by decide, rfl, rfl⟩⟩
  replace B0 := Aside.mk B0
  replace B2 := Aside.mk B2
  clear B1 k1
  generalize w1.heap.size = gk at *
  go_wp2_with fail
  go_loopw [4] (fun i wr => ∃ (k : Nat) (A : Option Addr) (c : Nat), k ≤ m ∧ i = .int .i64 k ∧ Aside (wr.ownsRow w.heap.size 35 9 (.slice A (2 * k + 1) c) (2 * k + 1) (insV (lpPre k))) ∧ Aside (Blk wr gk #[.int .i64 1, .int .i64 1, .int .i64 1] 3) ∧ Aside (Blk wr (gk + 1 + 1) (lpFC gk A (2 * k + 1) c) 25) ∧ Aside (Kp w wr)) (fun i _ => m - (intOf i).toNat)
  case atStart => exact ⟨0, _, 1, Nat.zero_le _, rfl, own0, B0, B2, kp⟩
  case round =>
    obtain ⟨k, A, c, hk, rfl, own, hK, hF, kr⟩ := hrel
    by_cases hlt : k < m
    · obtain ⟨q, b0, b1, b2, b3, b4, b5⟩ := hF.out.six
      have hnew := Aside.mk (heap_new (w := wr) (o := .cells (insV [lpC1, lpB2]).toArray 35) rfl)
      have hEb := Aside.mk (show w.heap.size ≤ (wr.alloc (.cells (insV [lpC1, lpB2]).toArray 35)).heap.size by have := kr.out.size; rw [World.size_alloc]; omega)
      go_wp2_with (at_builtin; refine wpList_pushm rfl (.tmp 26) (.tmp 29) 23 rfl w.heap.size 35 9 96 Try.underlying23 info_ins (by decide) (.slice A (2 * k + 1) c) (2 * k + 1) (insV (lpPre k)) rfl (own.out.alloc _) wr.heap.size 2 (by decide) (insV [lpC1, lpB2]).toArray rfl hnew.out rfl (insV_one _) (by omega) (by omega) hEb.out (2 * (k + 1) + 1) (by omega) ?_; intro g2 cap2 w2 hown2 hgr2 hor2 hg2l; have hF2 := Aside.mk ((hF.out.alloc (.cells (insV [lpC1, lpB2]).toArray 35)).grown hgr2 (own_far (own.out.alloc (.cells (insV [lpC1, lpB2]).toArray 35)) (hF.out.alloc (.cells (insV [lpC1, lpB2]).toArray 35)) (by decide))); have b5' := hF2.out.cell 5; have z5 := hF2.out.frozen 5; have q2 := hF2.out.lt; simp only [lpFC, List.getElem?_toArray, List.getElem?_cons_succ, List.getElem?_cons_zero] at b5')
      have hK2 := Aside.mk ((hK.out.alloc (.cells (insV [lpC1, lpB2]).toArray 35)).grown hgr2 (own_far (own.out.alloc (.cells (insV [lpC1, lpB2]).toArray 35)) (hK.out.alloc (.cells (insV [lpC1, lpB2]).toArray 35)) (by decide)))
      have k2 := Aside.mk ((kr.out.alloc (.cells (insV [lpC1, lpB2]).toArray 35)).grown hgr2 (own_ge own.out))
      have hown3 : Aside (w2.ownsRow w.heap.size 35 9 (.slice (some ⟨g2, 0, none⟩) (2 * (k + 1) + 1) cap2) (2 * (k + 1) + 1) (insV (lpPre (k + 1)))) := ⟨by
        rw [lpPre, insV_append]
        exact hown2⟩
      clear hown2 hgr2 hor2 b0 b1 b2 b3 b4 b5 q own hK hF kr hnew hEb
      have hk3 : Aside (Kp w (w2.setCell ⟨gk + 1 + 1, 5, none⟩ (.slice (some ⟨g2, 0, none⟩) (2 * (k + 1) + 1) cap2))) := ⟨k2.out.setCell (by have := hgk.out; simp only; omega) _⟩
      have hK3 := Aside.mk (hK2.out.far (i := 5) (show gk ≠ gk + 1 + 1 by omega) (.slice (some ⟨g2, 0, none⟩) (2 * (k + 1) + 1) cap2))
      have hF3 : Aside (Blk (w2.setCell ⟨gk + 1 + 1, 5, none⟩ (.slice (some ⟨g2, 0, none⟩) (2 * (k + 1) + 1) cap2)) (gk + 1 + 1) (lpFC gk (some ⟨g2, 0, none⟩) (2 * (k + 1) + 1) cap2) 25) := ⟨hF2.out.set (i := 5) (.slice (some ⟨g2, 0, none⟩) (2 * (k + 1) + 1) cap2)⟩
      have hown4 : Aside ((w2.setCell ⟨gk + 1 + 1, 5, none⟩ (.slice (some ⟨g2, 0, none⟩) (2 * (k + 1) + 1) cap2)).ownsRow w.heap.size 35 9 (.slice (some ⟨g2, 0, none⟩) (2 * (k + 1) + 1) cap2) (2 * (k + 1) + 1) (insV (lpPre (k + 1)))) := ⟨hown3.out.kept (grown_set w2 (gk + 1 + 1) 5 _) (Or.inr (fun e => own_far hown3.out hF2.out (by decide) e.symm))⟩
      clear hown3 hK2 hF2 k2
      go_roundw
      case rel => exact ⟨k + 1, some ⟨g2, 0, none⟩, cap2, by omega, by go_num, hown4, hK3, hF3, hk3⟩
      case measure => simp [intOf]; omega
    · obtain rfl : k = m := by omega
      obtain ⟨q, b0, b1, b2, b3, b4, b5⟩ := hF.out.six
      have hnew := Aside.mk (heap_new (w := wr) (o := .cells (insV [lpC1, lpB0, lpIf, lpRet]).toArray 35) rfl)
      have hEb := Aside.mk (show w.heap.size ≤ (wr.alloc (.cells (insV [lpC1, lpB0, lpIf, lpRet]).toArray 35)).heap.size by have := kr.out.size; rw [World.size_alloc]; omega)
      go_upto_region 10 with (at_builtin; refine wpList_pushm rfl (.tmp 33) (.tmp 38) 23 rfl w.heap.size 35 9 96 Try.underlying23 info_ins (by decide) (.slice A (2 * k + 1) c) (2 * k + 1) (insV (lpPre k)) rfl (own.out.alloc _) wr.heap.size 4 (by decide) (insV [lpC1, lpB0, lpIf, lpRet]).toArray rfl hnew.out rfl (insV_one _) (by omega) (by omega) hEb.out (2 * k + 5) (by omega) ?_; intro g2 cap2 w2 hown2 hgr2 hor2 hg2l; have hF2 := Aside.mk ((hF.out.alloc (.cells (insV [lpC1, lpB0, lpIf, lpRet]).toArray 35)).grown hgr2 (own_far (own.out.alloc (.cells (insV [lpC1, lpB0, lpIf, lpRet]).toArray 35)) (hF.out.alloc (.cells (insV [lpC1, lpB0, lpIf, lpRet]).toArray 35)) (by decide))); have b5' := hF2.out.cell 5; have z5 := hF2.out.frozen 5; have q2 := hF2.out.lt; simp only [lpFC, List.getElem?_toArray, List.getElem?_cons_succ, List.getElem?_cons_zero] at b5')
      have hK2 := Aside.mk ((hK.out.alloc (.cells (insV [lpC1, lpB0, lpIf, lpRet]).toArray 35)).grown hgr2 (own_far (own.out.alloc (.cells (insV [lpC1, lpB0, lpIf, lpRet]).toArray 35)) (hK.out.alloc (.cells (insV [lpC1, lpB0, lpIf, lpRet]).toArray 35)) (by decide)))
      have k2 := Aside.mk ((kr.out.alloc (.cells (insV [lpC1, lpB0, lpIf, lpRet]).toArray 35)).grown hgr2 (own_ge own.out))
      have hown3 : Aside (w2.ownsRow w.heap.size 35 9 (.slice (some ⟨g2, 0, none⟩) (2 * k + 5) cap2) (2 * k + 5) (insV (lpF k).code)) := ⟨by
        show w2.ownsRow _ _ _ _ _ (insV (lpPre k ++ _))
        rw [insV_append]
        exact hown2⟩
      clear hown2 hgr2 hor2 b0 b1 b2 b3 b4 b5 b5' z5 q2 q own hK hF kr hnew hEb
      have hk3 : Aside (Kp w (w2.setCell ⟨gk + 1 + 1, 5, none⟩ (.slice (some ⟨g2, 0, none⟩) (2 * k + 5) cap2))) := ⟨k2.out.setCell (by have := hgk.out; simp only; omega) _⟩
      have hK3 := (hK2.out.far (i := 5) (show gk ≠ gk + 1 + 1 by omega) (.slice (some ⟨g2, 0, none⟩) (2 * k + 5) cap2))
      have hF3 : Blk (w2.setCell ⟨gk + 1 + 1, 5, none⟩ (.slice (some ⟨g2, 0, none⟩) (2 * k + 5) cap2)) (gk + 1 + 1) (lpFC gk (some ⟨g2, 0, none⟩) (2 * k + 5) cap2) 25 := hF2.out.set (i := 5) (.slice (some ⟨g2, 0, none⟩) (2 * k + 5) cap2)
      have hown4 : (w2.setCell ⟨gk + 1 + 1, 5, none⟩ (.slice (some ⟨g2, 0, none⟩) (2 * k + 5) cap2)).ownsRow w.heap.size 35 9 (.slice (some ⟨g2, 0, none⟩) (2 * k + 5) cap2) (2 * k + 5) (insV (lpF k).code) := hown3.out.kept (grown_set w2 (gk + 1 + 1) 5 _) (Or.inr (fun e => own_far hown3.out hF2.out (by decide) e.symm))
      have hg2 : g2 < (w2.setCell ⟨gk + 1 + 1, 5, none⟩ (.slice (some ⟨g2, 0, none⟩) (2 * k + 5) cap2)).heap.size := by simpa [World.setCell] using hg2l
      clear hown3 hK2 hF2 k2
      generalize (w2.setCell ⟨gk + 1 + 1, 5, none⟩ (.slice (some ⟨g2, 0, none⟩) (2 * k + 5) cap2)) = W2 at *
      obtain ⟨hfun, hops⟩ := lp_funAt hK3 hown4
      have hL := Aside.mk (fun (V : World) (kV : Kp W2 V) => lp_lives hm (hfun.kp kV))
      replace hops := Aside.mk hops
      replace hF3 := Aside.mk hF3
      clear hfun hK3 hown4
      obtain ⟨q, b0, b1, b2, b3, b4, b5⟩ := hF3.out.six
      go_wp2_with fail
      refine Calls.mono (hL.out _ (Kp.refl _)) ?_
      clear b0 b1 b2 b3 b4 b5 q hL
      rintro e W3 ⟨gL, rfl, k23, hgL, hRow⟩
      have k3 := Aside.mk (hk3.out.trans k23)
      obtain ⟨q, b0, b1, b2, b3, b4, b5⟩ := (hF3.out.kp k23).six
      obtain ⟨Az, cz, r0, -⟩ := hRow 0 (by omega)
      obtain ⟨Ay, cy, r1, -⟩ := hRow (2 * k + 4) (by omega)
      rw [show lpN k 0 = 0 by simp [lpN]] at r0
      rw [show lpN k (2 * k + 4) = 0 by simp [lpN]] at r1
      have hop3 := Aside.mk (fun n i (h : (lpF k).code[n]? = some i) => (k23.cell (p := ⟨g2, n * 9, none⟩) hg2).trans (hops.out n i h))
      replace hRow := Aside.mk hRow
      have hF4 := Aside.mk (hF3.out.kp k23)
      have h23 := Aside.mk k23.size
      clear hF3 hops k23 hk3
      go_wp2_with fail
      clear b0 b1 b2 b3 b4 b5 q r0 r1
      go_loopw [6] (fun i wr => ∃ n : Nat, 1 ≤ n ∧ n ≤ 2 * k + 4 ∧ i = .int .i64 n ∧ Aside (Kp W3 wr)) (fun i _ => 2 * k + 4 - (intOf i).toNat)
      case atStart => exact ⟨1, by omega, by omega, rfl, ⟨Kp.refl _⟩⟩
      case round =>
        obtain ⟨n, hn1, hn2, rfl, kr⟩ := hrel
        by_cases hlt : n < 2 * k + 4
        · obtain ⟨A1, c1, e1, ints⟩ := hRow.out n (by omega)
          have e1' := (kr.out.cell (p := ⟨gL, n, none⟩) hgL).trans e1
          have hlen : Aside (lpN k n = if n % 2 = 0 then 2 else 1) := ⟨by unfold lpN; rw [if_pos (by omega)]⟩
          have hlen1 : 1 ≤ lpN k n ∧ lpN k n ≤ 2 := by rw [hlen.out]; split <;> omega
          clear e1
          replace ints := Aside.mk ints
          obtain ⟨N, hN⟩ : ∃ N, lpN k n = N := ⟨_, rfl⟩
          rw [hN] at hlen hlen1 e1' ints
          go_wp2_with fail
          go_loopw [7, 78] (fun z j wv => ∃ jj : Nat, jj ≤ N ∧ j = .int .i64 jj ∧ z = .bool (decide (1 ≤ jj)) ∧ Aside (Kp wr wv)) (fun _ j _ => N - (intOf j).toNat)
          case atStart => exact ⟨0, by omega, rfl, rfl, ⟨Kp.refl _⟩⟩
          case round =>
            obtain ⟨j, hj, rfl, rfl, kv⟩ := hrel
            by_cases hjl : j < N
            · obtain ⟨ga, oa, rfl, hga, hca⟩ := ints.out j hjl
              have hca' := ((kr.out.trans kv.out).cell (p := ⟨ga, oa + j, none⟩) hga).trans hca
              obtain ⟨q, b0, b1, b2, b3, b4, b5⟩ := (hF4.out.kp (kr.out.trans kv.out)).six
              obtain ⟨i, hi⟩ : ∃ i, (lpF k).code[n]? = some i := ⟨_, List.getElem?_eq_getElem (by rw [lp_len]; omega)⟩
              have hop := ((kr.out.trans kv.out).cell (p := ⟨g2, n * 9, none⟩) (Nat.lt_of_lt_of_le hg2 h23.out)).trans (hop3.out n i hi)
              clear hca
              by_cases h0 : j = 0
              · subst h0
                replace hop := Aside.mk hop
                rw [Nat.add_zero] at hca'
                simp only [show decide ((1:Nat) ≤ 0) = false from rfl, Int.natCast_zero, show ((0 : Nat) : Int) = 0 from rfl] at hca' ⊢
                go_wp2_with fail
                go_roundw
                case rel => exact ⟨1, by omega, by go_num, rfl, ⟨kv.out⟩⟩
                case measure => simp [intOf]; omega
              · obtain rfl : j = 1 := by omega
                have h4 : i.op = 4 := by
                  have hN2 := hlen.out
                  have hev : n % 2 = 0 := by
                    split at hN2
                    · assumption
                    · omega
                  rcases lp_at hi with ⟨h, -⟩ | ⟨h, -⟩ | ⟨-, -, -, rfl⟩ | ⟨-, rfl⟩ | ⟨h, -⟩ | ⟨h, -⟩
                  · omega
                  · omega
                  · rfl
                  · rfl
                  · omega
                  · omega
                rw [h4] at hop
                simp only [show decide ((1:Nat) ≤ 1) = true from rfl, show ((1 : Nat) : Int) = 1 from rfl] at hca' ⊢
                go_wp2_with fail
                go_roundw
                case rel => exact ⟨2, by omega, by go_num, rfl, ⟨kv.out⟩⟩
                case measure => simp [intOf]; omega
            · obtain rfl : j = N := by omega
              go_wp2_with fail
              go_roundw
              case rel => exact ⟨n + 1, by omega, by omega, by go_num, ⟨kr.out.trans kv.out⟩⟩
              case measure => simp [intOf]; omega
        · obtain rfl : n = 2 * k + 4 := by omega
          go_wp2_with fail
          go_ret
          exact ⟨rfl, k3.out.trans kr.out⟩
theorem loops_law (n : Int) (w0 : (Lit.int .i64 n).wf = true) (w : World) : Calls Try.prog 4 #[.int .i64 n] w fun e w' => e = .returned (.bool true) ∧ Below w.heap.size w w' :=
  (loops_calls n (bounds_i64 w0) w).mono fun _ _ ⟨he, hk⟩ => ⟨he, hk.out⟩
end Go.Proofs.Ytkianddaccoeiaa
