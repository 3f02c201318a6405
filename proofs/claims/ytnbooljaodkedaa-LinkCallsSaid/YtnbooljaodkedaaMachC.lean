/- The machine's calls (ECALL), walked. Conditions stand at each. -/
import Derived.Test.YtnbooljaodkedaaMachE
namespace Go.Proofs.Ytnbooljaodkedaa
open Go.RowKit Go.Maps Go.Proofs.Ytnbooljaodkedaa.PC Go.Proofs.Ytnbooljaodkedaa.PW
set_option linter.unusedVariables false
set_option linter.unusedSimpArgs false
set_option maxRecDepth 100000 in
theorem info_event : ∃ i z, Try.prog.info? 165 = some i ∧ i.zero = some z ∧ i.size = 3 ∧ i.bytes = 24 ∧ z.cells.size = 3 := ⟨_, _, rfl, rfl, rfl, rfl, rfl⟩
set_option maxHeartbeats 2000000 in
theorem call_halt {w : World} {b1 b2 R M B K N : Nat} {r : RS} (h : Rat w b1 R M B K r N) (h17 : r.s.x.getD 17 0 = 3) :
    Calls Try.prog 64 #[.pointer (some ⟨R, 0, none⟩)] w fun e w' => e = .returned (.tuple #[]) ∧ Mod (SR b1 b2 M B K) w w' ∧ Rat w' b1 R M B K (r.on { r.s with state := 1, code := r.s.x.getD 10 0 }) N := by
  obtain ⟨iv, ev, hb, hw, ho, hn, rl, r0, r1, r2⟩ := h.facts
  obtain ⟨lm, lb, c0, c65, c66, c67, c68⟩ := h.mac.facts
  have x17 := h.mac.cx (r := 17) (by decide)
  have x10 := h.mac.cx (r := 10) (by decide)
  rw [h17] at x17
  simp only [Nat.reduceAdd] at x17 x10
  have f66 := h.mac.m.frozen 66
  have f67 := h.mac.m.frozen 67
  have hRM : R ≠ M := by have h1 := h.lR; have h2 := h.lM; omega
  have hMR : M ≠ R := fun e => hRM e.symm
  replace h := Aside.mk h
  clear hb hw ho hn
  go_enter Try.func64, Try.ntmps64
  go_wp2
  go_region_held3 (fun w' => w'.cell? ⟨R, 0, none⟩ = some (.pointer (some ⟨M, 0, none⟩)) ∧ w'.cell? ⟨M, 11, none⟩ = some (.int .u32 (r.s.x.getD 10 0))) (first | (go_keep; done) | (simp [*, World.cell?_setCell_other]; done)) (fail)
  go_wp2
  go_end0
  have ho := h.out.mac.ok
  have h1 := h.out.setM (i := 66) (v := .int .i64 1) (s' := { r.s with state := 1 }) (set_state ho 1) rfl (ok_state ho 1)
  have h2 := h1.setM (i := 67) (v := .int .u32 (r.s.x.getD 10 0)) (s' := { r.s with state := 1, code := r.s.x.getD 10 0 }) (set_code (ok_state ho 1) _) rfl (ok_code (ok_state ho 1) (getD_U ho.ux 10))
  refine ⟨rfl, ?_, ?_⟩
  · exact (((Mod.refl (SR b1 b2 M B K) w).setCell (p := ⟨M, 66, none⟩) (Or.inl rfl) _).setCell (p := ⟨M, 67, none⟩) (Or.inl rfl) _).drew
  · exact h2.kp ((Kp.refl _).drew)
theorem grow_far {w w' : World} {row : Option Nat} {b o : Nat} {u : Value} (hg : w.grownBy w' row) (hl : b < w.heap.size) (hn : row ≠ some b) (h : w.cell? ⟨b, o, none⟩ = some u) : w'.cell? ⟨b, o, none⟩ = some u := by
  rw [World.cell?_of_block (w := w) (hg.block b hl (fun e => hn e.symm))]
  exact h
theorem al_cell {w : World} {o : Obj} {b i : Nat} {u : Value} (h : w.cell? ⟨b, i, none⟩ = some u) : (w.alloc o).drew.cell? ⟨b, i, none⟩ = some u := by
  obtain ⟨b', off, e, hl⟩ := cell_some h
  cases e
  exact (cell_kept w o hl).trans h
theorem al_frozen {w : World} {o : Obj} {b i : Nat} {u : Bool} (hl : b < w.heap.size) (h : w.frozen? ⟨b, i, none⟩ = u) : (w.alloc o).drew.frozen? ⟨b, i, none⟩ = u :=
  (((Kp.refl w).alloc o).frozen (p := ⟨b, i, none⟩) hl).trans h
theorem grow_frozen {w w' : World} {row : Option Nat} {b o : Nat} {u : Bool} (hg : w.grownBy w' row) (hl : b < w.heap.size) (hn : row ≠ some b) (h : w.frozen? ⟨b, o, none⟩ = u) : w'.frozen? ⟨b, o, none⟩ = u := by
  rw [World.frozen?_of_block (w := w) (hg.block b hl (fun e => hn e.symm))]
  exact h
/-- An event more. -/
theorem rat_push {w wA w5 : World} {b1 b2 R M B K N g cap : Nat} {r : RS} {e : Ev} {iv ev : Value} (h : Rat w b1 R M B K r N) (hb : Blk w R #[.pointer (some ⟨M, 0, none⟩), iv, ev] 90) (hw : Words w b1 M B K iv r.inp)
    (hT : TopB w R M b2) (hbase : ∀ j, ev.ownBlock = some j → b1 ≤ j) (hn : ev.ownBlock ≠ some R) (kA : Kp w wA) (hgrow : wA.grownBy w5 ev.ownBlock) (hown : w5.ownsRow b1 165 3 (.slice (some ⟨g, 0, none⟩) (r.ev.length + 1) cap) (r.ev.length + 1) (evC r.ev ++ [.int .i64 e.kind, .int .u32 e.word, .int .u64 e.real]))
    (hor : ev.ownBlock = some g ∨ g = wA.heap.size) : Mod (SR b1 b2 M B K) w (w5.setCell ⟨R, 2, none⟩ (.slice (some ⟨g, 0, none⟩) (r.ev.length + 1) cap)) ∧ Rat (w5.setCell ⟨R, 2, none⟩ (.slice (some ⟨g, 0, none⟩) (r.ev.length + 1) cap)) b1 R M B K ⟨r.s, r.inp, r.ev ++ [e]⟩ (N + 1) := by
  have h1 := h.lR
  have h2 := h.lM
  have h3 := h.lB
  have h4 := h.lK
  have hl := hb.lt
  have hlA : R < wA.heap.size := Nat.lt_of_lt_of_le hl kA.size
  have m5 : Mod (fun k => b1 ≤ k ∧ k < b2) w w5 := kA.mod.grown hgrow (fun k hk => Or.inl ⟨hbase k hk, hT.2 iv ev hb k hk⟩)
  have m6 : Mod (fun k => b1 ≤ k ∧ k < b2) w (w5.setCell ⟨R, 2, none⟩ (.slice (some ⟨g, 0, none⟩) (r.ev.length + 1) cap)) := m5.setCell (p := ⟨R, 2, none⟩) ⟨h1, hT.1⟩ _
  have hgR : g ≠ R := by
    rcases hor with h5 | h5
    · intro e; subst e; exact hn h5
    · omega
  refine ⟨m6.mono (fun k _ hk => Or.inr (Or.inr (Or.inr hk))), ⟨?_, ⟨iv, .slice (some ⟨g, 0, none⟩) (r.ev.length + 1) cap, ?_, ?_, ?_, ?_⟩, h1, h2, h3, h4, ?_⟩⟩
  · exact (h.mac.keep m6 (by omega) (by omega) (by omega)).more (Nat.le_succ _)
  · have hb5 : Blk w5 R #[.pointer (some ⟨M, 0, none⟩), iv, ev] 90 := (hgrow.block R hlA (fun e => hn e.symm)).trans (hb.kp kA)
    exact hb5.set (i := 2) _
  · exact hw.at (fun I hI _ _ _ hlI => m6.block I hlI (by omega))
  · show World.ownsRow _ b1 _ 3 _ (r.ev ++ [e]).length (evC (r.ev ++ [e]))
    rw [evC_snoc, List.length_append]
    exact row_at hown (fun j hj _ => by
      have : j = g := by simpa [Value.ownBlock] using hj.symm
      exact heap_setCell_other w5 ⟨R, 2, none⟩ j _ (by rw [this]; exact hgR))
  · simpa [Value.ownBlock] using hgR
  · have := h.le
    simp
    omega
set_option maxHeartbeats 2000000 in
theorem call_put {w : World} {b1 b2 R M B K N : Nat} {r : RS} (h : Rat w b1 R M B K r N) (h17 : r.s.x.getD 17 0 = 1) (hN : N < 1000000000) (hT : TopB w R M b2) :
    Calls Try.prog 64 #[.pointer (some ⟨R, 0, none⟩)] w fun e w' => e = .returned (.tuple #[]) ∧ Mod (SR b1 b2 M B K) w w' ∧ Rat w' b1 R M B K ⟨r.s, r.inp, r.ev ++ [⟨1, r.s.x.getD 10 0, 0⟩]⟩ (N + 1) := by
  obtain ⟨iv, ev, hb, hw, ho, hn, rl, r0, r1, r2⟩ := h.facts
  obtain ⟨lm, lb, c0, c65, c66, c67, c68⟩ := h.mac.facts
  have x17 := h.mac.cx (r := 17) (by decide)
  have x10 := h.mac.cx (r := 10) (by decide)
  rw [h17] at x17
  simp only [Nat.reduceAdd] at x17 x10
  have hRM : R ≠ M := by have h1 := h.lR; have h2 := h.lM; omega
  have hMR : M ≠ R := fun e => hRM e.symm
  have hle := h.le
  have hlR := h.lR
  have hlM := h.lM
  have hoM : ev.ownBlock ≠ some M := fun e => by have := own_ge ho M e; omega
  replace h := Aside.mk h
  have fR := hb.frozen 2
  clear c65 c66 c67 c68 c0
  replace hb := Aside.mk hb
  replace hw := Aside.mk hw
  replace hn := Aside.mk hn
  replace hoM := Aside.mk hoM
  have hbase := Aside.mk (own_ge ho)
  replace hT := Aside.mk hT
  generalize hxx : r.s.x.getD 10 0 = xx at *
  replace hxx := Aside.mk hxx
  generalize hlen : r.ev.length = le at *
  replace hlen := Aside.mk hlen
  go_enter Try.func64, Try.ntmps64
  go_wp2
  go_region_law ((refine step_push rfl (.tmp 17) (.tmp 27) (.tmp 26) 51 rfl b1 165 3 24 Try.underlying51 info_event (by decide) ev le (evC r.ev) ?_ ?_ ?_ ?_ ?_ ?_ ?_ ?_ ?_ ?_ ?_ ?_ ?_); (rfl); (focus repeat (first | assumption | refine World.ownsRow.drew ?_ | refine World.ownsRow.alloc ?_ _)); (rotate_left 2); (rfl); (rfl); (exact heap_new (by simp)); (rfl); (simp [Value.oneCell']); (omega); (omega); (simp; omega); (intro g cap w5 hown hgrow hor hlt); (have q2 := grow_far hgrow (by simp; omega) hn.out (al_cell r2)); (have q3 := grow_frozen hgrow (by simp; omega) hn.out (al_frozen rl fR)))
  all_goals
    go_wp2
    go_end0
    obtain rfl := hlen.out
    obtain rfl := hxx.out
    have hp := rat_push (e := ⟨1, r.s.x.getD 10 0, 0⟩) h.out hb.out hw.out hT.out hbase.out hn.out ((((Kp.refl w).alloc _)).drew) hgrow hown hor
    exact ⟨rfl, hp⟩
set_option maxHeartbeats 2000000 in
theorem call_real {w : World} {b1 b2 R M B K N : Nat} {r : RS} (h : Rat w b1 R M B K r N) (h17 : r.s.x.getD 17 0 = 5) (hN : N < 1000000000) (hT : TopB w R M b2) :
    Calls Try.prog 64 #[.pointer (some ⟨R, 0, none⟩)] w fun e w' => e = .returned (.tuple #[]) ∧ Mod (SR b1 b2 M B K) w w' ∧ Rat w' b1 R M B K ⟨r.s, r.inp, r.ev ++ [⟨2, 0, r.s.f.getD 10 0⟩]⟩ (N + 1) := by
  obtain ⟨iv, ev, hb, hw, ho, hn, rl, r0, r1, r2⟩ := h.facts
  obtain ⟨lm, lb, c0, c65, c66, c67, c68⟩ := h.mac.facts
  have x17 := h.mac.cx (r := 17) (by decide)
  have x10 := h.mac.cf (r := 10) (by decide)
  rw [h17] at x17
  simp only [Nat.reduceAdd] at x17 x10
  have hRM : R ≠ M := by have h1 := h.lR; have h2 := h.lM; omega
  have hMR : M ≠ R := fun e => hRM e.symm
  have hle := h.le
  have hlR := h.lR
  have hlM := h.lM
  have hoM : ev.ownBlock ≠ some M := fun e => by have := own_ge ho M e; omega
  replace h := Aside.mk h
  have fR := hb.frozen 2
  clear c65 c66 c67 c68 c0
  replace hb := Aside.mk hb
  replace hw := Aside.mk hw
  replace hn := Aside.mk hn
  replace hoM := Aside.mk hoM
  have hbase := Aside.mk (own_ge ho)
  replace hT := Aside.mk hT
  generalize hxx : r.s.f.getD 10 0 = xx at *
  replace hxx := Aside.mk hxx
  generalize hlen : r.ev.length = le at *
  replace hlen := Aside.mk hlen
  go_enter Try.func64, Try.ntmps64
  go_wp2
  go_region_law ((refine step_push rfl (.tmp 103) (.tmp 113) (.tmp 112) 51 rfl b1 165 3 24 Try.underlying51 info_event (by decide) ev le (evC r.ev) ?_ ?_ ?_ ?_ ?_ ?_ ?_ ?_ ?_ ?_ ?_ ?_ ?_); (rfl); (focus repeat (first | assumption | refine World.ownsRow.drew ?_ | refine World.ownsRow.alloc ?_ _)); (rotate_left 2); (rfl); (rfl); (exact heap_new (by simp)); (rfl); (simp [Value.oneCell']); (omega); (omega); (simp; omega); (intro g cap w5 hown hgrow hor hlt); (have q2 := grow_far hgrow (by simp; omega) hn.out (al_cell r2)); (have q3 := grow_frozen hgrow (by simp; omega) hn.out (al_frozen rl fR)))
  all_goals
    go_wp2
    go_end0
    obtain rfl := hlen.out
    obtain rfl := hxx.out
    have hp := rat_push (e := ⟨2, 0, r.s.f.getD 10 0⟩) h.out hb.out hw.out hT.out hbase.out hn.out ((((Kp.refl w).alloc _)).drew) hgrow hown hor
    exact ⟨rfl, hp⟩
set_option maxHeartbeats 2000000 in
theorem call_stack {w : World} {b1 b2 R M B K N : Nat} {r : RS} (h : Rat w b1 R M B K r N) (h17 : r.s.x.getD 17 0 = 4) :
    Calls Try.prog 64 #[.pointer (some ⟨R, 0, none⟩)] w fun e w' => e = .returned (.tuple #[]) ∧ Mod (SR b1 b2 M B K) w w' ∧ Rat w' b1 R M B K (r.on { r.s with state := 4 }) N := by
  obtain ⟨iv, ev, hb, hw, ho, hn, rl, r0, r1, r2⟩ := h.facts
  obtain ⟨lm, lb, c0, c65, c66, c67, c68⟩ := h.mac.facts
  have x17 := h.mac.cx (r := 17) (by decide)
  have x10 := h.mac.cx (r := 10) (by decide)
  simp only [Nat.reduceAdd] at x17 x10
  have hRM : R ≠ M := by have h1 := h.lR; have h2 := h.lM; omega
  have hMR : M ≠ R := fun e => hRM e.symm
  have f66 := h.mac.m.frozen 66
  have f11 := h.mac.m.frozen 11
  rw [h17] at x17
  replace h := Aside.mk h
  clear hb hw ho hn
  go_enter Try.func64, Try.ntmps64
  go_wp2
  go_end0
  have ho := h.out.mac.ok
  have h1 := h.out.setM (i := 66) (v := .int .i64 4) (s' := { r.s with state := 4 }) (set_state ho 4) rfl (ok_state ho 4)
  exact ⟨rfl, (Mod.refl (SR b1 b2 M B K) w).setCell (p := ⟨M, 66, none⟩) (Or.inl rfl) _, h1⟩
set_option maxHeartbeats 2000000 in
theorem call_bad {w : World} {b1 b2 R M B K N : Nat} {r : RS} (h : Rat w b1 R M B K r N) (h17 : ¬(1 ≤ r.s.x.getD 17 0 ∧ r.s.x.getD 17 0 ≤ 5)) :
    Calls Try.prog 64 #[.pointer (some ⟨R, 0, none⟩)] w fun e w' => e = .panicked (thrown 2) ∧ w' = w := by
  obtain ⟨iv, ev, hb, hw, ho, hn, rl, r0, r1, r2⟩ := h.facts
  obtain ⟨lm, lb, c0, c65, c66, c67, c68⟩ := h.mac.facts
  have x17 := h.mac.cx (r := 17) (by decide)
  have x10 := h.mac.cx (r := 10) (by decide)
  simp only [Nat.reduceAdd] at x17 x10
  have hRM : R ≠ M := by have h1 := h.lR; have h2 := h.lM; omega
  have hMR : M ≠ R := fun e => hRM e.symm
  have f66 := h.mac.m.frozen 66
  have f11 := h.mac.m.frozen 11
  have hU := getD_U h.mac.ok.ux 17
  generalize r.s.x.getD 17 0 = q at *
  have q0 : 0 ≤ q ∧ q ≤ 4294967295 := hU
  have q1 : (q == 1) = false := by simp; omega
  have q2 : (q == 2) = false := by simp; omega
  have q3 : (q == 3) = false := by simp; omega
  have q4 : (q == 4) = false := by simp; omega
  have q5 : (q == 5) = false := by simp; omega
  replace h := Aside.mk h
  clear hb hw ho hn h17
  go_enter Try.func64, Try.ntmps64
  go_wp2
  exact ⟨rfl, rfl, rfl⟩
set_option maxHeartbeats 2000000 in
theorem call_none {w : World} {b1 b2 R M B K N : Nat} {r : RS} (h : Rat w b1 R M B K r N) (h17 : r.s.x.getD 17 0 = 2) (hi : r.inp = []) :
    Calls Try.prog 64 #[.pointer (some ⟨R, 0, none⟩)] w fun e w' => e = .returned (.tuple #[]) ∧ Mod (SR b1 b2 M B K) w w' ∧ Rat w' b1 R M B K (r.on (r.s.setx 10 0)) N := by
  obtain ⟨iv, ev, hb, hw, ho, hn, rl, r0, r1, r2⟩ := h.facts
  obtain ⟨lm, lb, c0, c65, c66, c67, c68⟩ := h.mac.facts
  have x17 := h.mac.cx (r := 17) (by decide)
  have x10 := h.mac.cx (r := 10) (by decide)
  simp only [Nat.reduceAdd] at x17 x10
  have hRM : R ≠ M := by have h1 := h.lR; have h2 := h.lM; omega
  have hMR : M ≠ R := fun e => hRM e.symm
  have f66 := h.mac.m.frozen 66
  have f11 := h.mac.m.frozen 11
  rw [h17] at x17
  obtain ⟨⟨A, c, hv, hc, hA⟩, hu, hl⟩ := hw
  rw [hi] at hv
  subst hv
  replace h := Aside.mk h
  clear hb ho hn hA hu hl hc hi
  simp only [List.length_nil] at *
  have ro : ((w.setCell ⟨M, 11, none⟩ (.int .u32 0)).cell? ⟨R, 1, none⟩ = some (.slice A 0 c)) := by rw [World.cell?_setCell_other _ _ _ _ (by simp [hMR])]; exact r1
  go_enter Try.func64, Try.ntmps64
  go_wp2
  go_end0
  have ho := h.out.mac.ok
  have h1 := h.out.setM (i := 11) (v := .int .u32 0) (s' := r.s.setx 10 0) (set_x ho (r := 10) (by decide) 0) rfl (ok_x ho 10 (by unfold U; decide))
  exact ⟨rfl, (Mod.refl (SR b1 b2 M B K) w).setCell (p := ⟨M, 11, none⟩) (Or.inl rfl) _, h1⟩
/-- The input taken. -/
theorem rat_inp {w : World} {b1 R M B K N : Nat} {r : RS} {l : List Int} {iv' : Value} (h : Rat w b1 R M B K r N) (hw' : Words w b1 M B K iv' l) : Rat (w.setCell ⟨R, 1, none⟩ iv') b1 R M B K ⟨r.s, l, r.ev⟩ N := by
  obtain ⟨iv, ev, hb, hw, ho, hn⟩ := h.run
  have h1 := h.lR
  have h2 := h.lM
  have h3 := h.lB
  have h4 := h.lK
  have m : Mod (fun k => k = R) w (w.setCell ⟨R, 1, none⟩ iv') := (Mod.refl (fun k => k = R) w).setCell (p := ⟨R, 1, none⟩) rfl _
  refine ⟨h.mac.keep m (by omega) (by omega) (by omega), ⟨iv', ev, hb.set (i := 1) _, ?_, ?_, hn⟩, h1, h2, h3, h4, h.le⟩
  · exact hw'.at (fun I hI _ _ _ hl => m.block I hl (by omega))
  · exact row_at ho (fun j hj hl => m.block j hl (fun e => hn (by rw [hj, show j = R from e])))
theorem words_tail {w : World} {b1 M B K I off c c' : Nat} {A' : Option Addr} {v : Int} {l : List Int} (hI : I < b1 ∧ I ≠ M ∧ I ≠ B ∧ I ≠ K) (hcell : ∀ i, i < (v :: l).length → w.cell? ⟨I, off + i, none⟩ = some (.int .u32 ((v :: l).getD i 0))) (hu : ∀ x ∈ v :: l, U x) (hl : l.length + 1 ≤ 140737488355328)
    (hc : l.length ≤ c') (hA : l ≠ [] → A' = some ⟨I, off + 1, none⟩) : Words w b1 M B K (.slice A' l.length c') l := by
  refine ⟨⟨A', c', rfl, hc, fun hne => ⟨I, off + 1, hA hne, hI.1, hI.2.1, hI.2.2.1, hI.2.2.2, fun i hi => ?_⟩⟩, fun x hx => hu x (List.mem_cons_of_mem _ hx), by omega⟩
  have := hcell (i + 1) (by simp; omega)
  simp only [List.getD_cons_succ] at this
  rw [show off + 1 + i = off + (i + 1) by omega]
  exact this
set_option maxHeartbeats 2000000 in
theorem call_get {w : World} {b1 b2 R M B K N : Nat} {r : RS} (h : Rat w b1 R M B K r N) (h17 : r.s.x.getD 17 0 = 2) {v : Int} {l : List Int} (hi : r.inp = v :: l) (hT : TopB w R M b2) :
    Calls Try.prog 64 #[.pointer (some ⟨R, 0, none⟩)] w fun e w' => e = .returned (.tuple #[]) ∧ Mod (SR b1 b2 M B K) w w' ∧ Rat w' b1 R M B K ⟨r.s.setx 10 v, l, r.ev⟩ N := by
  obtain ⟨iv, ev, hb, hw, ho, hn, rl, r0, r1, r2⟩ := h.facts
  obtain ⟨lm, lb, c0, c65, c66, c67, c68⟩ := h.mac.facts
  have x17 := h.mac.cx (r := 17) (by decide)
  have x10 := h.mac.cx (r := 10) (by decide)
  simp only [Nat.reduceAdd] at x17 x10
  have hRM : R ≠ M := by have h1 := h.lR; have h2 := h.lM; omega
  have hMR : M ≠ R := fun e => hRM e.symm
  have f66 := h.mac.m.frozen 66
  have f11 := h.mac.m.frozen 11
  rw [h17] at x17
  replace hT : Aside (R < b2) := ⟨hT.1⟩
  have hw' := hw
  obtain ⟨⟨A, c, hv, hc, hA⟩, hu, hl⟩ := hw'
  rw [hi] at hv hc hA hu hl
  subst hv
  obtain ⟨I, off, rfl, i1, i2, i3, i4, hcell⟩ := hA (by simp)
  have hv0 := hcell 0 (by simp)
  simp only [Nat.add_zero, List.getD_cons_zero] at hv0
  simp only [List.length_cons] at r1 hc hl
  have fR := hb.frozen 1
  have hIM : I ≠ M := i2
  have hMI : M ≠ I := fun e => i2 e.symm
  have hIR : I ≠ R := by have := h.lR; omega
  replace h := Aside.mk h
  replace hcell := Aside.mk hcell
  replace hb := Aside.mk hb
  replace hu := Aside.mk hu
  clear ho hn hA
  go_enter Try.func64, Try.ntmps64
  go_upto_region 7 with fail
  have ho := h.out.mac.ok
  have hW := h.out.setM (i := 11) (v := .int .u32 0) (s' := r.s.setx 10 0) (set_x ho (r := 10) (by decide) 0) rfl (ok_x ho 10 (by unfold U; decide))
  have hk : Mod (SR b1 b2 M B K) w (w.setCell ⟨M, 11, none⟩ (.int .u32 0)) := (Mod.refl (SR b1 b2 M B K) w).setCell (p := ⟨M, 11, none⟩) (Or.inl rfl) _
  have q0 : (w.setCell ⟨M, 11, none⟩ (.int .u32 0)).cell? ⟨R, 0, none⟩ = some (.pointer (some ⟨M, 0, none⟩)) := by rw [World.cell?_setCell_other _ _ _ _ (by simp [hMR])]; exact r0
  have q1 : (w.setCell ⟨M, 11, none⟩ (.int .u32 0)).cell? ⟨R, 1, none⟩ = some (.slice (some ⟨I, off, none⟩) (l.length + 1) c) := by rw [World.cell?_setCell_other _ _ _ _ (by simp [hMR])]; exact r1
  have q2 : (w.setCell ⟨M, 11, none⟩ (.int .u32 0)).cell? ⟨I, off, none⟩ = some (.int .u32 v) := by rw [World.cell?_setCell_other _ _ _ _ (by simp [hMI])]; exact hv0
  have q3 : (w.setCell ⟨M, 11, none⟩ (.int .u32 0)).cell? ⟨M, 11, none⟩ = some (.int .u32 0) := World.cell?_setCell_same _ _ _ x10
  have q4 : (w.setCell ⟨M, 11, none⟩ (.int .u32 0)).frozen? ⟨M, 11, none⟩ = false := by rw [World.frozen?_setCell]; exact f11
  have q5 : (w.setCell ⟨M, 11, none⟩ (.int .u32 0)).frozen? ⟨R, 1, none⟩ = false := by rw [World.frozen?_setCell]; exact fR
  replace hW := Aside.mk hW
  replace hk := Aside.mk hk
  have hcellW : Aside (∀ i, i < (v :: l).length → (w.setCell ⟨M, 11, none⟩ (.int .u32 0)).cell? ⟨I, off + i, none⟩ = some (.int .u32 ((v :: l).getD i 0))) := ⟨fun i hi => by rw [World.cell?_setCell_other _ _ _ _ (by simp [hMI])]; exact hcell.out i hi⟩
  clear r0 r1 r2 hv0 x10 x17 f11 fR lm lb c0 c65 c66 c67 c68 rl f66 ho
  generalize hWW : w.setCell ⟨M, 11, none⟩ (.int .u32 0) = W at *
  clear hWW
  go_region
  have fin : ∀ A' c', l.length ≤ c' → (l ≠ [] → A' = some ⟨I, off + 1, none⟩) → Mod (SR b1 b2 M B K) w (((W.setCell ⟨M, 11, none⟩ (.int .u32 v)).setCell ⟨R, 1, none⟩ (.slice A' l.length c')).drew) ∧ Rat (((W.setCell ⟨M, 11, none⟩ (.int .u32 v)).setCell ⟨R, 1, none⟩ (.slice A' l.length c')).drew) b1 R M B K ⟨r.s.setx 10 v, l, r.ev⟩ N := by
    intro A' c' hc' hA'
    have hlR := h.out.lR
    refine ⟨((hk.out.setCell (p := ⟨M, 11, none⟩) (Or.inl rfl) _).setCell (p := ⟨R, 1, none⟩) (Or.inr (Or.inr (Or.inr ⟨hlR, hT.out⟩))) _).drew, ?_⟩
    have h1 := hW.out.setM (i := 11) (v := .int .u32 v) (s' := (r.s.setx 10 0).setx 10 v) (set_x hW.out.mac.ok (r := 10) (by decide) v) rfl (ok_x hW.out.mac.ok 10 (hu.out v (by simp)))
    have e : (r.s.setx 10 0).setx 10 v = r.s.setx 10 v := by simp [MS.setx, List.set_set]
    rw [e] at h1
    have mk : ∀ i, i < (v :: l).length → (W.setCell ⟨M, 11, none⟩ (.int .u32 v)).cell? ⟨I, off + i, none⟩ = some (.int .u32 ((v :: l).getD i 0)) := by
      intro i hi
      rw [World.cell?_setCell_other _ _ _ _ (by simp [hMI])]
      exact hcellW.out i hi
    exact (rat_inp h1 (words_tail (c := 0) ⟨i1, i2, i3, i4⟩ mk hu.out hl hc' hA')).kp ((Kp.refl _).drew)
  replace fin := Aside.mk fin
  go_wp2
  all_goals
    go_end0
    first
    | exact ⟨rfl, fin.out _ _ (by omega) (fun _ => rfl)⟩
    | exact ⟨rfl, fin.out _ _ (by omega) (fun hne => absurd (List.eq_nil_of_length_eq_zero (by omega)) hne)⟩
end Go.Proofs.Ytnbooljaodkedaa
