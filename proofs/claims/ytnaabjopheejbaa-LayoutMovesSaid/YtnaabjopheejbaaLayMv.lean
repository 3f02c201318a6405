/- LayoutMoves, walked. -/
import Derived.Test.YtnaabjopheejbaaLayP
namespace Go.Proofs.Ytnaabjopheejbaa
open Go.RowKit
set_option linter.unusedVariables false
set_option linter.unusedSimpArgs false
theorem info_pair : ∃ i z, Try.prog.info? 45 = some i ∧ i.zero = some z ∧ i.size = 2 ∧ i.bytes = 4 ∧ z.cells.size = 2 := ⟨_, _, rfl, rfl, rfl, rfl, rfl⟩
/-- The cells of so many pairs. -/
def pairs (t d : Nat → Nat) : Nat → List Value
  | 0 => []
  | k + 1 => pairs t d k ++ [.int .u16 (t k), .int .u16 (d k)]
theorem pairs_length (t d : Nat → Nat) (k : Nat) : (pairs t d k).length = k * 2 := by
  induction k with
  | zero => rfl
  | succ k ih => simp [pairs, ih]; omega
theorem pairs_at (t d : Nat → Nat) (n k : Nat) (hk : k < n) : (pairs t d n)[k * 2]? = some (.int .u16 (t k)) ∧ (pairs t d n)[k * 2 + 1]? = some (.int .u16 (d k)) := by
  induction n with
  | zero => omega
  | succ m ih =>
    have hl := pairs_length t d m
    by_cases e : k = m
    · subst e
      refine ⟨?_, ?_⟩
      · rw [pairs, List.getElem?_append_right (by omega), hl]; simp
      · rw [pairs, List.getElem?_append_right (by omega), hl]; simp
    · have := ih (by omega)
      refine ⟨?_, ?_⟩
      · rw [pairs, List.getElem?_append_left (by omega)]; exact this.1
      · rw [pairs, List.getElem?_append_left (by omega)]; exact this.2
theorem pairs_one (t d : Nat → Nat) (n : Nat) : ∀ u ∈ pairs t d n, u.oneCell' = true := by
  induction n with
  | zero => intro u hu; cases hu
  | succ n ih =>
    intro u hu
    rw [pairs, List.mem_append] at hu
    rcases hu with hu | hu
    · exact ih u hu
    · simp at hu
      rcases hu with rfl | rfl <;> rfl
theorem Sizes.news {w : World} {A : Option Addr} {n c : Nat} {t d : Nat → Nat} (h : Sizes w A n c t d) : ∀ ad, A = some ad → ∀ j u, (pairs t d n)[j]? = some u → w.cell? (ad.add j) = some u := by
  intro ad hA j u hu
  have hl := pairs_length t d n
  have hj : j < n * 2 := by rw [← hl]; exact (List.getElem?_eq_some_iff.1 hu).1
  obtain ⟨g, o, hA', hg, hc⟩ := h.at_ (by omega)
  rw [hA] at hA'
  obtain rfl := Option.some.inj hA'
  rw [addr_add]
  obtain ⟨h1, h2⟩ := hc (j / 2) (by omega)
  obtain ⟨p1, p2⟩ := pairs_at t d n (j / 2) (by omega)
  rcases Nat.mod_two_eq_zero_or_one j with e | e
  · have ej : j / 2 * 2 = j := by omega
    rw [ej] at h1 p1
    rw [p1] at hu
    rw [← hu]; exact h1
  · have ej : j / 2 * 2 + 1 = j := by omega
    rw [ej] at p2
    have eo : o + j / 2 * 2 + 1 = o + j := by omega
    rw [eo] at h2
    rw [p2] at hu
    rw [← hu]; exact h2
/-- With one more at the end. -/
def more (t : Nat → Nat) (n x i : Nat) : Nat := if i < n then t i else x
theorem more_lt {t : Nat → Nat} {n x i : Nat} (h : i < n) : more t n x i = t i := by rw [more, if_pos h]
theorem pairs_more (t d : Nat → Nat) (n x y k : Nat) (hk : k ≤ n) : pairs (more t n x) (more d n y) k = pairs t d k := by
  induction k with
  | zero => rfl
  | succ k ih => rw [pairs, pairs, ih (by omega), more_lt (by omega), more_lt (by omega)]
theorem sumTo_more (t : Nat → Nat) (n x k : Nat) (hk : k ≤ n) : sumTo (more t n x) k = sumTo t k := by
  induction k with
  | zero => rfl
  | succ k ih => rw [sumTo, sumTo, ih (by omega), more_lt (by omega)]
theorem sumTo_more_all (t : Nat → Nat) (n x : Nat) : sumTo (more t n x) (n + 1) = sumTo t n + x := by
  rw [sumTo, sumTo_more t n x n (Nat.le_refl _), more, if_neg (by omega)]
theorem sizes_of_own {w : World} {b g cap m : Nat} {t d : Nat → Nat} (h : w.ownsRow b 45 2 (.slice (some ⟨g, 0, none⟩) m cap) m (pairs t d m)) (ht : ∀ i, i < m → t i ≤ 65535) (hd : ∀ i, i < m → d i ≤ 65535) : Sizes w (some ⟨g, 0, none⟩) m cap t d := by
  refine ⟨fun hn => ⟨g, 0, rfl, ?_, fun i hi => ?_⟩, ht, hd, fun e => by cases e⟩
  · obtain ⟨g', cap', hv, _, hlt⟩ := h.form hn
    injection hv with hv
    injection hv with hv
    injection hv with hv
    subst hv
    exact hlt
  · obtain ⟨p1, p2⟩ := pairs_at t d m i hi
    refine ⟨?_, ?_⟩
    · rw [Nat.zero_add, h.cellAt _ (by omega)]; exact p1
    · rw [Nat.zero_add, h.cellAt _ (by omega)]; exact p2
theorem own_lit0 {w : World} {base B : Nat} {e : TypeId} {size : Nat} (h : w.heap[B]? = some (.cells #[] e)) (hb : base ≤ B) : w.ownsRow base e size (.slice (some ⟨B, 0, none⟩) 0 0) 0 [] :=
  ⟨by simp, Or.inr ⟨B, 0, #[], rfl, hb, h, Nat.le_refl _, by unfold maxLen; omega, by simp, by simp⟩⟩
theorem own_ge0 {B base n c : Nat} (h : base ≤ B) : ∀ j, Value.ownBlock (.slice (some ⟨B, 0, none⟩) n c) = some j → base ≤ j := by
  intro j hj
  have e : B = j := Option.some.inj hj
  omega
theorem heap_old {w : World} {o : Obj} {b : Nat} {r : Option Obj} (h : b < w.heap.size) (hr : w.heap[b]? = r) : (w.alloc o).heap[b]? = r := by
  rw [← hr]
  exact Below.heap_alloc w o b h
theorem news_kept {W W' : World} {A : Option Addr} {xs : List Value} (k : Kp W W') (h : ∀ ad, A = some ad → ∀ j u, xs[j]? = some u → W.cell? (ad.add j) = some u) : ∀ ad, A = some ad → ∀ j u, xs[j]? = some u → W'.cell? (ad.add j) = some u := by
  intro ad hA j u hu
  have h1 := h ad hA j u hu
  obtain ⟨b, off, e, hlt⟩ := cell_some h1
  rw [e] at h1 ⊢
  exact (k.cell hlt).trans h1
theorem sizes_push {w : World} {b g cap n : Nat} {t d : Nat → Nat} {x y : Nat} (h : w.ownsRow b 45 2 (.slice (some ⟨g, 0, none⟩) (n + 1) cap) (n + 1) (pairs t d n ++ #[Value.int .u16 x, Value.int .u16 y].toList)) (ht : ∀ i, i < n → t i ≤ 65535) (hd : ∀ i, i < n → d i ≤ 65535) (hx : x ≤ 65535) (hy : y ≤ 65535) :
    Sizes w (some ⟨g, 0, none⟩) (n + 1) cap (more t n x) (more d n y) := by
  refine sizes_of_own (b := b) ?_ (fun i hi => ?_) (fun i hi => ?_)
  · rw [pairs, pairs_more t d n x y n (Nat.le_refl _), more, more, if_neg (by omega), if_neg (by omega)]
    exact h
  · unfold more
    split
    · exact ht i (by omega)
    · exact hx
  · unfold more
    split
    · exact hd i (by omega)
    · exact hy
theorem lit_a {w w' : World} {E L : Obj} (h : ((w.alloc L).alloc E).drew.grownBy w' (some (w.heap.size + 1))) : w'.heap[w.heap.size]? = some L := by
  rw [h.block w.heap.size (by simp only [World.size_drew, World.size_alloc]; omega) (by simp)]
  exact heap_old (by simp only [World.size_alloc]; omega) (heap_new rfl)
theorem lit_b {w w' : World} {E L : Obj} (h : ((w.alloc E).alloc L).drew.grownBy w' (some w.heap.size)) : w'.heap[w.heap.size + 1]? = some L := by
  rw [h.block (w.heap.size + 1) (by simp only [World.size_drew, World.size_alloc]; omega) (by simp)]
  exact heap_new (by simp only [World.size_alloc])
theorem base_more (t d : Nat → Nat) (n x y : Nat) : base t n + sumTo d n ≤ base (more t n x) (n + 1) + sumTo (more d n y) (n + 1) := by
  rw [sumTo_more_all]
  unfold base
  rw [sumTo_more_all]
  omega
theorem sumTo_bound {t d : Nat → Nat} {n k : Nat} (h : base t n + sumTo d n ≤ 2097152) (hk : k ≤ n) : base t n + sumTo d k ≤ 2097152 := by
  have := sumTo_mono d hk
  omega
theorem move_cells {w : World} {G1 G2 n x y k : Nat} {t d : Nat → Nat} (h1 : w.rowIs G1 35 (n * 2) (lay2 t d n n)) (h2 : w.rowIs G2 35 ((n + 1) * 2) (lay2 (more t n x) (more d n y) (n + 1) (n + 1)))
    (hl1 : base t n + sumTo d n ≤ 2097152) (hl2 : base (more t n x) (n + 1) + sumTo (more d n y) (n + 1) ≤ 2097152) (hk : k < n) :
    ∃ T Ak Bk A0 B0 : Int, w.cell? ⟨G1, k * 2, none⟩ = some (.int .i64 T) ∧ w.cell? ⟨G1, k * 2 + 1, none⟩ = some (.int .i64 Ak) ∧ w.cell? ⟨G2, k * 2, none⟩ = some (.int .i64 T) ∧ w.cell? ⟨G2, k * 2 + 1, none⟩ = some (.int .i64 Bk) ∧
      w.cell? ⟨G1, 1, none⟩ = some (.int .i64 A0) ∧ w.cell? ⟨G2, 1, none⟩ = some (.int .i64 B0) ∧ 0 ≤ Ak ∧ Ak ≤ 2097152 ∧ 0 ≤ Bk ∧ Bk ≤ 2097152 ∧ 0 ≤ A0 ∧ A0 ≤ 2097152 ∧ 0 ≤ B0 ∧ B0 ≤ 2097152 ∧ ((Bk - Ak) != (B0 - A0)) = false := by
  have c1 := sumTo_bound hl1 (k := k) (by omega)
  have c2 := sumTo_bound hl1 (k := 0) (by omega)
  have c3 := sumTo_bound hl2 (k := k) (by omega)
  have c4 := sumTo_bound hl2 (k := 0) (by omega)
  have s1 := sumTo_more d n y k (by omega)
  have s2 := sumTo_more t n x k (by omega)
  refine ⟨_, _, _, _, _, (h1.cell (i := k * 2) (by omega)).trans (congrArg some (lay2_even t d n k hk)), (h1.cell (i := k * 2 + 1) (by omega)).trans (congrArg some (lay2_odd t d n k hk)),
    (h2.cell (i := k * 2) (by omega)).trans (congrArg some ((lay2_even _ _ _ k (by omega)).trans (by rw [s2]))), (h2.cell (i := k * 2 + 1) (by omega)).trans (congrArg some (lay2_odd _ _ _ k (by omega))),
    (h1.cell (i := 0 * 2 + 1) (by omega)).trans (congrArg some (lay2_odd t d n 0 (by omega))), (h2.cell (i := 0 * 2 + 1) (by omega)).trans (congrArg some (lay2_odd _ _ _ 0 (by omega))), by omega, by omega, by omega, by omega, by omega, by omega, by omega, by omega, ?_⟩
  rw [bne_eq_false_iff_eq, s1]
  simp only [sumTo]
  omega
/-- Layout's outcome, in one form. -/
def LayCase (w w' : World) (n : Nat) (t d : Nat → Nat) (l : Value) (k er : Int) : Prop :=
  (2097152 < base t n + sumTo d n ∧ l = .slice none 0 0 ∧ k = 0 ∧ er = 6) ∨
  (base t n + sumTo d n ≤ 2097152 ∧ l = .slice (some ⟨w.heap.size, 0, none⟩) n n ∧ k = ((base t n + sumTo d n : Nat) : Int) ∧ er = 0 ∧ w'.rowIs w.heap.size 35 (n * 2) (lay2 t d n n))
theorem lay_form {w : World} {n : Nat} {t d : Nat → Nat} {e : Ending} {w' : World} (h : LayR w n t d e w') : ∃ l k er, e = .returned (.tuple #[l, .int .i64 k, .int .i64 er]) ∧ Kp w w' ∧ LayCase w w' n t d l k er := by
  obtain ⟨kp, ⟨hs, he⟩ | ⟨hs, he, hr⟩⟩ := h
  · exact ⟨_, _, _, he, kp, Or.inl ⟨hs, rfl, rfl, rfl⟩⟩
  · exact ⟨_, _, _, he, kp, Or.inr ⟨hs, rfl, rfl, rfl, hr⟩⟩
set_option maxRecDepth 100000 in
set_option maxHeartbeats 1000000 in
theorem moves_any (A : Option Addr) (n c : Nat) (t d : Nat → Nat) (x y : Nat) (hx : x ≤ 65535) (hy : y ≤ 65535) (w : World) (h : Sizes w A n c t d) :
    Calls Try.prog 5 #[.slice A n c, .agg #[.int .u16 x, .int .u16 y]] w fun e w' => e = .returned (.bool true) ∧ Kp w w' := by
  by_cases hn : 11 < n
  · go_enter Try.func5, Try.ntmps5
    go_wp2_with ((go_at_call 8); (refine (awake07_calls _).mono ?_); (rintro e w1 ⟨rfl, kpa⟩))
    go_ret
    exact ⟨rfl, by repeat (first | exact Kp.refl _ | assumption | exact Dr.kp (by assumption) | refine Kp.drewN ?_ _ | refine Kp.drew ?_ | refine Kp.alloc ?_ _ | refine Kp.setCell ?_ (by first | exact Nat.le_refl _ | assumption | omega) _ | refine Kp.trans ?_ (by assumption) | refine Kp.trans ?_ (Dr.kp (by assumption)))⟩
  · have ht := sumTo_le t 65535 n h.ht
    have hd := sumTo_le d 65535 n h.hd
    go_enter Try.func5, Try.ntmps5
    go_wp2_with ((go_at_call 8); (refine (awake07_calls _).mono ?_); (rintro e w1 ⟨rfl, kpa⟩))
    have kpa' : Kp w w1 := by repeat (first | exact Kp.refl _ | assumption | exact Dr.kp (by assumption) | refine Kp.drewN ?_ _ | refine Kp.drew ?_ | refine Kp.alloc ?_ _ | refine Kp.setCell ?_ (by first | exact Nat.le_refl _ | assumption | omega) _ | refine Kp.trans ?_ (by assumption) | refine Kp.trans ?_ (Dr.kp (by assumption)))
    have hs1 := h.kept kpa'
    refine (hs1.objects (by omega)).mono ?_
    rintro e w2 ⟨v, xs, rfl, kp2, hown, hobj⟩
    go_wp2_with fail
    refine (lay_own hown hobj (by omega) (by omega) (by omega)).mono ?_
    intro e w3 hlay
    obtain ⟨l1, k1, er1, rfl, kp3, C1⟩ := lay_form hlay
    have hs3 : Sizes w3 A n c t d := hs1.kept (kp2.trans kp3)
    have lx : w3.cell? ⟨w.heap.size, 0, none⟩ = some (.int .u16 x) := ((kpa.trans kp2).trans kp3).cell (p := ⟨w.heap.size, 0, none⟩) (by simp) |>.trans (cell_new _ _ _ 0)
    have ly : w3.cell? ⟨w.heap.size, 1, none⟩ = some (.int .u16 y) := ((kpa.trans kp2).trans kp3).cell (p := ⟨w.heap.size, 1, none⟩) (by simp) |>.trans (cell_new _ _ _ 1)
    have lz : w.heap.size < w3.heap.size := by
      have h1 := ((kpa.trans kp2).trans kp3).size
      simp only [World.size_alloc] at h1
      omega
    have nws := hs3.news
    have hA := hs3.nil_
    have hs3' := Aside.mk hs3
    replace nws := Aside.mk nws
    replace hA := Aside.mk hA
    clear hs3 hlay hs1
    go_wp2_with fail
    go_region_law (first
      | ((refine step_app rfl (.tmp 28) (.tmp 29) 22 rfl w3.heap.size 45 2 4 Try.underlying22 info_pair (by decide) (.slice (some ⟨?_, 0, none⟩) 0 0) 0 [] ?_ ?_ A n c (pairs t d n) rfl hA.out (pairs_length t d n) ?_ (pairs_one t d n) ?_ ?_ ?_ ?_); (rotate_left 1); (rfl); (exact own_lit0 (by first | exact heap_new (by simp) | exact heap_old (by simp only [World.size_drew, World.size_alloc]; omega) (heap_new (by simp))) (by simp)); (exact news_kept (by repeat (first | exact Kp.refl _ | assumption | exact Dr.kp (by assumption) | refine Kp.drewN ?_ _ | refine Kp.drew ?_ | refine Kp.alloc ?_ _ | refine Kp.setCell ?_ (by first | exact Nat.le_refl _ | assumption | omega) _ | refine Kp.trans ?_ (by assumption) | refine Kp.trans ?_ (Dr.kp (by assumption)))) nws.out); (omega); (omega); (first | omega | (simp; done) | (simp only [World.size_drew, World.size_alloc]; omega) | (simp; omega)); (intro v4 w4 hown4 hgrow4); (simp only [Nat.zero_add, List.nil_append] at hown4); (have kp4 : Kp w3 w4 := Kp.grown (by repeat (first | exact Kp.refl _ | assumption | exact Dr.kp (by assumption) | refine Kp.drewN ?_ _ | refine Kp.drew ?_ | refine Kp.alloc ?_ _ | refine Kp.setCell ?_ (by first | exact Nat.le_refl _ | assumption | omega) _ | refine Kp.trans ?_ (by assumption) | refine Kp.trans ?_ (Dr.kp (by assumption)))) hgrow4 (own_ge0 (by simp))); (have lx4 := (kp4.cell (p := ⟨w.heap.size, 0, none⟩) lz).trans lx); (have ly4 := (kp4.cell (p := ⟨w.heap.size, 1, none⟩) lz).trans ly); (try have hLa := lit_a hgrow4); (try have hLb := lit_b hgrow4); (have sz4 := kp4.size))
      | ((refine step_push rfl (.tmp 30) (.tmp 32) (.tmp 31) 22 rfl w3.heap.size 45 2 4 Try.underlying22 info_pair (by decide) v4 n (pairs t d n) ?_ ?_ ?_ ?_ ?_ ?_ ?_ ?_ ?_ ?_ ?_ ?_ ?_); (rfl); (focus repeat (first | assumption | refine World.ownsRow.drew ?_ | refine World.ownsRow.alloc ?_ _)); (rotate_left 2); (rfl); (rfl); (first | exact heap_new (by simp) | exact hLa | exact hLb); (rfl); (simp [Value.oneCell']); (omega); (omega); (first | omega | (simp; done) | (simp only [World.size_drew, World.size_alloc]; omega) | (simp; omega)); (intro g5 cap5 w5 hown5 hgrow5 hor5 hlt5); (have kp5 : Kp w3 w5 := Kp.grown (by repeat (first | exact Kp.refl _ | assumption | exact Dr.kp (by assumption) | refine Kp.drewN ?_ _ | refine Kp.drew ?_ | refine Kp.alloc ?_ _ | refine Kp.setCell ?_ (by first | exact Nat.le_refl _ | assumption | omega) _ | refine Kp.trans ?_ (by assumption) | refine Kp.trans ?_ (Dr.kp (by assumption)))) hgrow5 (own_ge hown4)); (have sz5 := Aside.mk (sizes_push hown5 hs3'.out.ht hs3'.out.hd hx hy)))
      | (go_simp; (go_at_call 9); (refine (sz5.out.objects (by omega)).mono ?_); (rintro e w6 ⟨v6, xs6, rfl, kp6, hown6, hobj6⟩))
      | (go_simp; (go_at_call 10); (refine (lay_own hown6 hobj6 (by omega) (by rw [sumTo_more_all]; omega) (by rw [sumTo_more_all]; omega)).mono ?_); (intro e w7 hlay7); (obtain ⟨l2, k2, er2, rfl, kp7, C2⟩ := lay_form hlay7)))
    all_goals
      have tm := base_more t d n x y
      rcases C1 with ⟨hl1, rfl, rfl, rfl⟩ | ⟨hl1, rfl, rfl, rfl, hrow1⟩
      · rcases C2 with ⟨hl2, rfl, rfl, rfl⟩ | ⟨hl2, rfl, rfl, rfl, hrow2⟩
        · go_wp2
          go_ret
          exact ⟨rfl, by repeat (first | exact Kp.refl _ | assumption | exact Dr.kp (by assumption) | refine Kp.drewN ?_ _ | refine Kp.drew ?_ | refine Kp.alloc ?_ _ | refine Kp.setCell ?_ (by first | exact Nat.le_refl _ | assumption | omega) _ | refine Kp.trans ?_ (by assumption) | refine Kp.trans ?_ (Dr.kp (by assumption)))⟩
        · omega
      · rcases C2 with ⟨hl2, rfl, rfl, rfl⟩ | ⟨hl2, rfl, rfl, rfl, hrow2⟩
        · go_wp2
          go_ret
          exact ⟨rfl, by repeat (first | exact Kp.refl _ | assumption | exact Dr.kp (by assumption) | refine Kp.drewN ?_ _ | refine Kp.drew ?_ | refine Kp.alloc ?_ _ | refine Kp.setCell ?_ (by first | exact Nat.le_refl _ | assumption | omega) _ | refine Kp.trans ?_ (by assumption) | refine Kp.trans ?_ (Dr.kp (by assumption)))⟩
        · replace hrow1 := Kp.row hrow1 ((kp5.trans kp6).trans kp7)
          go_wp2
          go_loopw [64] (fun i wr => ∃ k : Nat, k ≤ n ∧ i = .int .i64 k ∧ Dr w7 wr) (fun i _ => n - (intOf i).toNat)
          case atStart => exact ⟨0, Nat.zero_le _, rfl, Dr.refl _⟩
          case round =>
            obtain ⟨k, hk, rfl, ⟨m, rfl⟩⟩ := hrel
            by_cases hlt : k < n
            · obtain ⟨T, Ak, Bk, A0, B0, e1, e2, f1, f2, g2, i2, b1, b2, b3, b4, b5, b6, b7, b8, hne⟩ := move_cells hrow1 hrow2 hl1 hl2 hlt
              go_wp2
              go_quiet (fail)
              go_wp2
              go_roundw
              case rel => exact ⟨k + 1, by omega, by go_num, ⟨_, rfl⟩⟩
              case measure => simp [intOf]; omega
            · obtain rfl : n = k := by omega
              go_wp2
              go_ret
              exact ⟨rfl, by repeat (first | exact Kp.refl _ | assumption | exact Dr.kp (by assumption) | refine Kp.drewN ?_ _ | refine Kp.drew ?_ | refine Kp.alloc ?_ _ | refine Kp.setCell ?_ (by first | exact Nat.le_refl _ | assumption | omega) _ | refine Kp.trans ?_ (by assumption) | refine Kp.trans ?_ (Dr.kp (by assumption)))⟩
end Go.Proofs.Ytnaabjopheejbaa
