/- The reference: of each register where it is live, walked; Behind, param. Conditions stand at each. -/
import Derived.Test.YtkianddaccoeiaaRvC
import Derived.Test.YtkianddaccoeiaaPlainClash
namespace Go.Proofs.Ytkianddaccoeiaa
open Go.RowKit Go.Maps Go.Proofs.Ytkianddaccoeiaa.PL
set_option linter.unusedVariables false
set_option linter.unusedSimpArgs false
/-- Of each of the first registers a row of truths. -/
structure AllAt (w : World) (N K : Nat) (B : Nat) (f : FunV) (G : Nat → Nat) : Prop where
  rows : ∀ r, r < K → Blk w (G r) (boolsC N (fun n => liveB f n r)) 4 ∧ B ≤ G r
/-- What All hands back, readable. -/
def AllR (w : World) (A : Option Addr) (f : FunV) : Prop := ∀ r, r < f.kinds.length → ∃ g off gr, A = some ⟨g, off, none⟩ ∧ g < w.heap.size ∧ w.cell? ⟨g, off + r, none⟩ = some (.slice (some ⟨gr, 0, none⟩) f.code.length f.code.length) ∧ gr < w.heap.size ∧ ∀ n, n < f.code.length → w.cell? ⟨gr, n, none⟩ = some (.bool (liveB f n r))
theorem AllR.kp {w w' : World} {A : Option Addr} {f : FunV} (h : AllR w A f) (k : Kp w w') : AllR w' A f := fun r hr => by
  obtain ⟨g, off, gr, e, hg, hc, hgr, hb⟩ := h r hr
  exact ⟨g, off, gr, e, Nat.lt_of_lt_of_le hg k.size, (k.cell (p := ⟨g, _, none⟩) hg).trans hc, Nat.lt_of_lt_of_le hgr k.size, fun n hn => (k.cell (p := ⟨gr, _, none⟩) hgr).trans (hb n hn)⟩
def allCells (N K : Nat) (G : Nat → Nat) : List Value := (List.range K).map fun r => Value.slice (some ⟨G r, 0, none⟩) N N
theorem allCells_snoc (N K : Nat) (G : Nat → Nat) : allCells N (K + 1) G = allCells N K G ++ [Value.slice (some ⟨G K, 0, none⟩) N N] := by simp [allCells, List.range_succ]
theorem allCells_congr {N K : Nat} {G G' : Nat → Nat} (h : ∀ r, r < K → G r = G' r) : allCells N K G = allCells N K G' := by
  unfold allCells
  refine List.map_congr_left (fun r hr => ?_)
  rw [h r (List.mem_range.1 hr)]
set_option maxRecDepth 100000 in
theorem info_bools : ∃ i z, Try.prog.info? 56 = some i ∧ i.zero = some z ∧ i.size = 1 ∧ i.bytes = 24 ∧ z.cells.size = 1 := ⟨_, _, rfl, rfl, rfl, rfl, rfl⟩
theorem ownsRow_kp' {w w' : World} {base : Nat} {e : TypeId} {z n : Nat} {v : Value} {xs : List Value} (h : w.ownsRow base e z v n xs) (k : Kp w w') : w'.ownsRow base e z v n xs := by
  refine ⟨h.1, ?_⟩
  rcases h.2 with h2 | ⟨g, cap, cur, h1, h2, h3, h4⟩
  · exact Or.inl h2
  · exact Or.inr ⟨g, cap, cur, h1, h2, (k.block (Array.getElem?_eq_some_iff.1 h3).1).trans h3, h4⟩
/-- One element more, given by the block that holds it. -/
theorem wpList_pushv {P : Program} {ops : Array Oper} {rest : List Oper} {o : Oper} {a : Act} {w : World} {Q : Exit → Act → World → Prop} (hgd : o.guard = none) (s x : Operand) (t : TypeId) (ho : o.op = .call { callee := .builtin .append, args := #[s, x], argTypes := #[t, t] })
    (base : Nat) (e : TypeId) (size bytes : Nat) (ht : P.underlying t = some (.slice e)) (hinfo : ∃ i z, P.info? e = some i ∧ i.zero = some z ∧ i.size = size ∧ i.bytes = bytes ∧ z.cells.size = size) (hsz : 0 < size)
    (v : Value) (n : Nat) (xs : List Value) (hs : a.eval s = v) (hown : w.ownsRow base e size v n xs)
    (B : Nat) (cs : Array Value) (hx : a.eval x = .slice (some ⟨B, 0, none⟩) 1 1) (hb : w.heap[B]? = some (.cells cs e)) (hl : cs.size = size) (h1 : ∀ u ∈ cs.toList, u.oneCell' = true)
    (hbytes : (n + 1) * bytes ≤ 140737488355328) (hmax : n ≤ 140737488355328) (hbase : base ≤ w.heap.size)
    (h : ∀ g cap w', w'.ownsRow base e size (.slice (some ⟨g, 0, none⟩) (n + 1) cap) (n + 1) (xs ++ cs.toList) → w.grownBy w' v.ownBlock → (v.ownBlock = some g ∨ g = w.heap.size) → g < w'.heap.size → wpList P ops Q rest (a.put o.dst (.slice (some ⟨g, 0, none⟩) (n + 1) cap)) w') :
    wpList P ops Q (o :: rest) a w := by
  obtain ⟨i, z, hi, hz, hsize, hby, hzs⟩ := hinfo
  exact wpList_append_lies w hgd s x t ho base e i z size bytes ht hi hz hsize hby hzs hsz v n xs hs hown ⟨B, 0, none⟩ 1 1 cs.toList hx (by simpa using hl) (news_of hb) h1 (by omega) (by unfold maxLen; omega) hbytes hbase _ rfl h
theorem own_far {w : World} {base n z : Nat} {e : TypeId} {v : Value} {xs : List Value} (h : w.ownsRow base e z v n xs) {b : Nat} {cs : Array Value} {ty : TypeId} {fr : Nat × Nat} (hb : w.heap[b]? = some (.cells cs ty fr)) (hne : ty ≠ e) : some b ≠ v.ownBlock := by
  rcases h.2 with ⟨h1, _⟩ | ⟨g, cap, cur, h1, h2, h3, _⟩
  · rw [h1]
    intro e
    cases e
  · rw [h1]
    intro e
    have : b = g := by simpa [Value.ownBlock] using e
    subst this
    rw [hb] at h3
    injection h3 with h3
    injection h3 with _ h3 _
    exact hne h3
set_option maxRecDepth 100000 in
set_option maxHeartbeats 4000000 in
theorem All_calls (x : FunC) (w : World) (h : FunAt w x) (hf : x.f.ok) (hl1 : x.f.code.length ≤ 10000) (hl2 : x.f.kinds.length ≤ 10000) (hl3 : ∀ i ∈ x.f.code, i.args.length ≤ 10000) : Calls Try.prog 20 #[.agg x.cells] w fun e w' => ∃ A n c, e = .returned (.slice A n c) ∧ n = x.f.kinds.length ∧ n ≤ c ∧ AllR w' A x.f ∧ Kp w w' := by
  have hk0 := Aside.mk ((Kp.refl w).alloc (.cells x.cells 25))
  have hb0 := Blk.new w x.cells 25
  have hs0 : Aside ((w.alloc (.cells x.cells 25)).heap.size = w.heap.size + 1) := ⟨by simp⟩
  have hof := Aside.mk (fun (V : World) (kV : Kp (w.alloc (.cells x.cells 25)) V) (r : Nat) => of_calls x r V (h.kp (hk0.out.trans kV)) hf hl1 hl3)
  obtain ⟨f, P, cp, Q, ck, R, cs, C, cc, L⟩ := x
  simp only [FunC.cells] at *
  have hbox := Aside.mk (fun (V : World) (kV : Kp (w.alloc (.cells #[.string f.name, .bool f.static, .slice P f.params.length cp, .slice Q f.kinds.length ck, .slice R f.slots.length cs, .slice C f.code.length cc] 25)) V) => (hb0.kp kV).six)
  replace hf := Aside.mk hf
  replace hl3 := Aside.mk hl3
  clear h hb0
  generalize hW0 : w.alloc (.cells #[.string f.name, .bool f.static, .slice P f.params.length cp, .slice Q f.kinds.length ck, .slice R f.slots.length cs, .slice C f.code.length cc] 25) = W0 at *
  replace hW0 := Aside.mk hW0
  obtain ⟨q, b0, b1, b2, b3, b4, b5⟩ := hbox.out _ (Kp.refl W0)
  rw [← hW0.out] at b0 b1 b2 b3 b4 b5
  go_enter Try.func20, Try.ntmps20
  go_wp2_with fail
  rw [hW0.out]
  clear b0 b1 b2 b3 b4 b5 q
  go_loopw [3, 8] (fun v i wr => ∃ (k : Nat) (G : Nat → Nat) (A : Option Addr) (c : Nat), k ≤ f.kinds.length ∧ v = .slice A k c ∧ i = .int .i64 k ∧ Aside (wr.ownsRow W0.heap.size 56 1 (.slice A k c) k (allCells f.code.length k G)) ∧ Aside (∀ r, r < k → Blk wr (G r) (boolsC f.code.length (fun n => liveB f n r)) 4) ∧ Aside (Kp W0 wr)) (fun _ i _ => f.kinds.length - (intOf i).toNat)
  case atStart => exact ⟨0, fun _ => 0, none, 0, Nat.zero_le _, rfl, rfl, ⟨World.ownsRow_nil _ _ _ _⟩, ⟨fun r h => absurd h (by omega)⟩, ⟨Kp.refl _⟩⟩
  case round =>
    obtain ⟨k, G, A, c, hk, rfl, rfl, hown, hG, kp⟩ := hrel
    by_cases hlt : k < f.kinds.length
    · obtain ⟨q, b0, b1, b2, b3, b4, b5⟩ := hbox.out _ kp.out
      go_wp2_with fail
      refine Calls.mono (hof.out _ kp.out k) ?_
      clear b0 b1 b2 b3 b4 b5 q
      rintro e w1 ⟨g1, rfl, hg1, hb1, k1⟩
      have kp1 := Aside.mk (kp.out.trans k1)
      have hG1 := Aside.mk (fun r (hr : r < k) => (hG.out r hr).kp k1)
      have hown1 := Aside.mk (ownsRow_kp' hown.out k1)
      replace hb1 := Aside.mk hb1
      have hnb := Aside.mk (heap_new (w := w1) (o := .cells #[.slice (some ⟨g1, 0, none⟩) f.code.length f.code.length] 56) rfl)
      clear k1
      have hEb := Aside.mk (show W0.heap.size ≤ (w1.alloc (.cells #[.slice (some ⟨g1, 0, none⟩) f.code.length f.code.length] 56)).heap.size by have := kp1.out.size; rw [World.size_alloc]; omega)
      go_wp2_with (at_builtin; refine wpList_pushv rfl (.tmp 11) (.tmp 15) 54 rfl W0.heap.size 56 1 24 Try.underlying54 info_bools (by decide) (.slice A k c) k (allCells f.code.length k G) rfl (hown1.out.alloc _) w1.heap.size #[.slice (some ⟨g1, 0, none⟩) f.code.length f.code.length] rfl hnb.out rfl (by simp [Value.oneCell']) (by omega) (by omega) hEb.out ?_; intro g2 cap2 w2 hown2 hgr2 _ hg2l)
      have kp2 := Aside.mk ((kp1.out.alloc (.cells #[.slice (some ⟨g1, 0, none⟩) f.code.length f.code.length] 56)).grown hgr2 (own_ge hown1.out))
      have hfar : ∀ b T, Blk w1 b (boolsC f.code.length T) 4 → Blk w2 b (boolsC f.code.length T) 4 := fun b T hb => (hb.alloc _).grown hgr2 (own_far (hown1.out.alloc (.cells #[.slice (some ⟨g1, 0, none⟩) f.code.length f.code.length] 56)) (hb.alloc (.cells #[.slice (some ⟨g1, 0, none⟩) f.code.length f.code.length] 56)) (by decide))
      have hown3 := Aside.mk (show w2.ownsRow W0.heap.size 56 1 (.slice (some ⟨g2, 0, none⟩) (k + 1) cap2) (k + 1) (allCells f.code.length (k + 1) (fun r => if r = k then g1 else G r)) by
        rw [allCells_snoc, allCells_congr (G' := G) (fun r hr => if_neg (by omega)), if_pos rfl]
        exact hown2)
      have hG3 := Aside.mk (show ∀ r, r < k + 1 → Blk w2 ((fun r => if r = k then g1 else G r) r) (boolsC f.code.length (fun n => liveB f n r)) 4 from fun r hr => by
        by_cases e : r = k
        · subst e
          simp only [if_true]
          exact hfar _ _ hb1.out
        · simp only [if_neg e]
          exact hfar _ _ (hG1.out r (by omega)))
      clear hown2 hgr2 hfar hg2l
      go_wp2_with fail
      go_roundw
      case rel => exact ⟨k + 1, _, some ⟨g2, 0, none⟩, cap2, by omega, rfl, by go_num, hown3, hG3, kp2⟩
      case measure => simp [intOf]; omega
    · obtain rfl : k = f.kinds.length := by omega
      go_wp2
      go_ret
      have hs := hown.out.1
      refine ⟨A, _, c, rfl, rfl, ?_, fun r hr => ?_, hk0.out.trans kp.out⟩
      · rcases hown.out.2 with ⟨h1, h2⟩ | ⟨g, cap, cur, h1, h2, h3, h4, h5, h6, h7⟩
        · simp only [Value.slice.injEq] at h1
          omega
        · simp only [Value.slice.injEq] at h1
          omega
      · rcases hown.out.2 with ⟨h1, h2⟩ | ⟨g, cap, cur, h1, h2, h3, h4, h5, h6, h7⟩
        · omega
        · simp only [Value.slice.injEq] at h1
          obtain ⟨rfl, -, -⟩ := h1
          have e : cur[r]? = some (.slice (some ⟨G r, 0, none⟩) f.code.length f.code.length) := by
            have := congrArg (fun L => L[r]?) h7
            simp only [List.getElem?_take] at this
            rw [if_pos (by omega)] at this
            unfold allCells at this
            simpa [hr] using this
          have hb := hG.out r hr
          refine ⟨g, 0, G r, rfl, (Array.getElem?_eq_some_iff.1 h3).1, ?_, hb.lt, fun n hn => (hb.cell n).trans (boolsC_at hn)⟩
          rw [Nat.zero_add]
          simp [World.cell?, h3, e]
end Go.Proofs.Ytkianddaccoeiaa
