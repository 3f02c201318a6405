/- Runs of a machine by their steps: one behind the other, and walked. Conditions stand at each. -/
import Derived.Test.YtgcihcgclmdolaaMachNt
namespace Go.Proofs.Ytgcihcgclmdolaa
open Go.RowKit Go.Maps Go.Proofs.Ytgcihcgclmdolaa.PC Go.Proofs.Ytgcihcgclmdolaa.PW
set_option linter.unusedVariables false
set_option linter.unusedSimpArgs false
/-- A run of at most so many steps: the machine and the input behind it, its events, its steps. -/
inductive RunTo : MS → List Int → Nat → MS → List Int → List Ev → Nat → Prop
  | out (s : MS) (inp : List Int) : RunTo s inp 0 s inp [] 0
  | done {s : MS} (inp : List Int) (f : Nat) (h : s.state ≠ 0) : RunTo s inp f s inp [] 0
  | stop {s : MS} {inp : List Int} (f : Nat) {c : Int} (h : s.state = 0) (hc : c ≠ 0) (hs : ∀ ev, StopC ⟨s, inp, ev⟩ c) : RunTo s inp (f + 1) { s with state := c } inp [] 0
  | step {s s1 s' : MS} {inp inp1 inp' : List Int} {f n : Nat} {es ev : List Ev} (h : s.state = 0) (hin : s.inside) (hs : ∀ ev, StepC ⟨s, inp, ev⟩ ⟨s1, inp1, ev ++ es⟩) (hi : inp1 = nextI s inp) (he : es.length ≤ 1) (hr : RunTo s1 inp1 f s' inp' ev n) : RunTo s inp (f + 1) s' inp' (es ++ ev) (n + 1)
theorem step_all (s : MS) (inp : List Int) :
    (s.inside ∧ ∃ (s' : MS) (inp' : List Int) (es : List Ev), (∀ ev, StepC ⟨s, inp, ev⟩ ⟨s', inp', ev ++ es⟩) ∧ inp' = nextI s inp ∧ es.length ≤ 1) ∨ ∃ c : Int, c ≠ 0 ∧ ∀ ev, StopC ⟨s, inp, ev⟩ c := by
  by_cases hin : s.inside
  · exact (step_total s inp).imp (fun h => ⟨hin, h⟩) id
  · exact Or.inr ⟨3, by decide, fun ev w b1 R M B K N hr hN => (stop_far hr (Or.inl ⟨hin, rfl⟩)).mono (fun e' w' ⟨he, hm, hr⟩ => ⟨he, hm, hr.more (by omega)⟩)⟩
theorem run_total : ∀ (f : Nat) (s : MS) (inp : List Int), ∃ s' inp' ev n, RunTo s inp f s' inp' ev n := by
  intro f
  induction f with
  | zero => intro s inp; exact ⟨_, _, _, _, .out s inp⟩
  | succ f ih =>
    intro s inp
    by_cases h : s.state = 0
    · rcases step_all s inp with ⟨hin, s1, inp1, es, hs, hi, he⟩ | ⟨c, hc, hs⟩
      · obtain ⟨s', inp', ev, n, hr⟩ := ih s1 inp1
        exact ⟨_, _, _, _, .step h hin hs hi he hr⟩
      · exact ⟨_, _, _, _, .stop f h hc hs⟩
    · exact ⟨_, _, _, _, .done inp _ h⟩
theorem RunTo.still {s s' : MS} {inp inp' : List Int} {f n : Nat} {ev : List Ev} (h : RunTo s inp f s' inp' ev n) (hs : s.state ≠ 0) : s' = s ∧ inp' = inp ∧ ev = [] ∧ n = 0 := by
  cases h with
  | out => exact ⟨rfl, rfl, rfl, rfl⟩
  | done => exact ⟨rfl, rfl, rfl, rfl⟩
  | stop _ h => exact absurd h hs
  | step h => exact absurd h hs
theorem RunTo.evs {s s' : MS} {inp inp' : List Int} {f n : Nat} {ev : List Ev} (h : RunTo s inp f s' inp' ev n) : ev.length ≤ f := by
  induction h with
  | out => exact Nat.zero_le _
  | done => exact Nat.zero_le _
  | stop => exact Nat.zero_le _
  | step hs hin hst hi he hr ih => rw [List.length_append]; omega
theorem RunTo.steps {s s' : MS} {inp inp' : List Int} {f n : Nat} {ev : List Ev} (h : RunTo s inp f s' inp' ev n) : n ≤ f := by
  induction h with
  | out => exact Nat.zero_le _
  | done => exact Nat.zero_le _
  | stop => exact Nat.zero_le _
  | step hs hin hst hi he hr ih => omega
theorem RunTo.append {s s1 s2 : MS} {inp inp1 inp2 : List Int} {f g n m : Nat} {ev ev2 : List Ev} (h : RunTo s inp f s1 inp1 ev n) (h2 : RunTo s1 inp1 g s2 inp2 ev2 m) : RunTo s inp (f + g) s2 inp2 (ev ++ ev2) (n + m) := by
  induction h with
  | out s inp => simpa using h2
  | done inp f hs =>
    obtain ⟨rfl, rfl, rfl, rfl⟩ := h2.still hs
    exact .done _ _ hs
  | @stop s inp f c hs hc hst =>
    obtain ⟨rfl, rfl, rfl, rfl⟩ := h2.still (by exact hc)
    have := RunTo.stop (f + g) hs hc hst
    rw [show f + g + 1 = f + 1 + g by omega] at this
    exact this
  | @step s s1 s' inp inp1 inp' f n es ev hs hin hst hi he hr ih =>
    have := RunTo.step hs hin hst hi he (ih h2)
    rw [show f + g + 1 = f + 1 + g by omega, show n + m + 1 = n + 1 + m by omega, ← List.append_assoc] at this
    exact this
/-- The machines, inputs and events of a run, step by step. -/
structure Trace (S : Nat → MS) (I : Nat → List Int) (E : Nat → List Ev) (n : Nat) : Prop where
  e0 : E 0 = []
  step : ∀ k, k < n → (S k).state = 0 ∧ (S k).inside ∧ I (k + 1) = nextI (S k) (I k) ∧ ∃ es, E (k + 1) = E k ++ es ∧ es.length ≤ 1 ∧ ∀ ev, StepC ⟨S k, I k, ev⟩ ⟨S (k + 1), I (k + 1), ev ++ es⟩
theorem RunTo.trace {s s' : MS} {inp inp' : List Int} {f n : Nat} {ev : List Ev} (h : RunTo s inp f s' inp' ev n) :
    ∃ S I E, Trace S I E n ∧ S 0 = s ∧ I 0 = inp ∧ I n = inp' ∧ E n = ev ∧ n ≤ f ∧ ((S n = s' ∧ (f ≤ n ∨ s'.state ≠ 0)) ∨ (n < f ∧ (S n).state = 0 ∧ ∃ c : Int, (∀ ev, StopC ⟨S n, I n, ev⟩ c) ∧ s' = { S n with state := c })) := by
  induction h with
  | out s inp => exact ⟨fun _ => s, fun _ => inp, fun _ => [], ⟨rfl, fun k hk => by omega⟩, rfl, rfl, rfl, rfl, Nat.le_refl _, Or.inl ⟨rfl, Or.inl (Nat.le_refl _)⟩⟩
  | @done s inp f hs => exact ⟨fun _ => s, fun _ => inp, fun _ => [], ⟨rfl, fun k hk => by omega⟩, rfl, rfl, rfl, rfl, Nat.zero_le _, Or.inl ⟨rfl, Or.inr hs⟩⟩
  | @stop s inp f c hs hc hst => exact ⟨fun _ => s, fun _ => inp, fun _ => [], ⟨rfl, fun k hk => by omega⟩, rfl, rfl, rfl, rfl, Nat.zero_le _, Or.inr ⟨Nat.succ_pos _, hs, c, hst, rfl⟩⟩
  | @step s s1 s' inp inp1 inp' f n es ev hs hin hst hi he hr ih =>
    obtain ⟨S, I, E, ⟨t0, t1⟩, rfl, rfl, h3, h4, h5, h6⟩ := ih
    refine ⟨fun k => match k with | 0 => s | k + 1 => S k, fun k => match k with | 0 => inp | k + 1 => I k, fun k => match k with | 0 => [] | k + 1 => es ++ E k, ⟨rfl, fun k hk => ?_⟩, rfl, rfl, h3, by rw [← h4], by omega, ?_⟩
    · cases k with
      | zero => exact ⟨hs, hin, hi, es, by show es ++ E 0 = [] ++ es; rw [t0]; simp, he, hst⟩
      | succ k =>
        obtain ⟨q1, q0, q2, es2, q3, q5, q4⟩ := t1 k (by omega)
        exact ⟨q1, q0, q2, es2, by show es ++ E (k + 1) = es ++ E k ++ es2; rw [q3, List.append_assoc], q5, q4⟩
    · rcases h6 with ⟨q1, q2⟩ | ⟨q1, q2, c, q3, q4⟩
      · refine Or.inl ⟨q1, ?_⟩
        rcases q2 with q2 | q2
        · exact Or.inl (by omega)
        · exact Or.inr q2
      · exact Or.inr ⟨by omega, q2, c, q3, q4⟩
theorem Mac.upN {w : World} {M B K N N' : Nat} {s : MS} (h : Mac w M B K s N) (hn : N ≤ N') : Mac w M B K s N' := h.more hn
/-- A run, walked. -/
theorem Run_to {w : World} {M B K N : Nat} {s s' : MS} {inp inp' : List Int} {f n : Nat} {ev : List Ev} (h : RunTo s inp f s' inp' ev n) (fI nI : Int) (hfI : fI = f) (hnI : nI = n) (iv : Value) (hm : Mac w M B K s N) (hw : Words w w.heap.size M B K iv inp) (hf : f ≤ 1000) (hN : N ≤ 900000000) :
    Calls Try.prog 12 #[.pointer (some ⟨M, 0, none⟩), iv, .int .i64 fI] w fun e w' => ∃ A c, e = .returned (.agg #[.int .i64 s'.state, .int .u32 s'.code, .slice A ev.length c, .int .i64 nI]) ∧ Mod (fun k => k = M ∨ k = B ∨ k = K) w w' ∧ Mac w' M B K s' (N + 2002) ∧ w'.ownsRow (w.heap.size + 1) 45 3 (.slice A ev.length c) ev.length (evC ev) := by
  subst hfI hnI
  obtain ⟨S, I, E, ⟨t0, t1⟩, rfl, rfl, rfl, rfl, h5, h6⟩ := h.trace
  have hst : ∀ k, k < n → ((k : Nat) : Int) < ((f : Nat) : Int) ∧ (S k).state = 0 ∧ StepC ⟨S k, I k, E k⟩ ⟨S (k + 1), I (k + 1), E (k + 1)⟩ := by
    intro k hk
    obtain ⟨q1, q0, q2, es, q3, q5, q4⟩ := t1 k hk
    exact ⟨by omega, q1, by rw [q3]; exact q4 _⟩
  have fin : ∀ {w' : World} {evv : Value}, w'.ownsRow (w.heap.size + 1) 45 3 evv (E n).length (evC (E n)) → ∃ A c, evv = .slice A (E n).length c := by
    intro w' evv g3
    rcases g3.2 with ⟨h, h0⟩ | ⟨g, cap, cur, h, _⟩
    · exact ⟨none, 0, by rw [h, h0]⟩
    · exact ⟨_, _, h⟩
  rcases h6 with ⟨rfl, h6⟩ | ⟨h6, h7, c, h8, rfl⟩
  · refine (Run_calls (fun k => ⟨S k, I k, E k⟩) n f iv hm hw t0 (by omega) hst (h6.imp (fun h => by omega) id) (by omega)).mono ?_
    rintro e w' ⟨evv, e1, g1, g2, g3⟩
    obtain ⟨A, c, rfl⟩ := fin g3
    exact ⟨A, c, e1, g1, g2.upN (by omega), g3⟩
  · refine (Run_stop (fun k => ⟨S k, I k, E k⟩) n f iv hm hw t0 (by omega) hst (by omega) h7 (h8 _) (by omega)).mono ?_
    rintro e w' ⟨evv, e1, g1, g2, g3⟩
    obtain ⟨A, c, rfl⟩ := fin g3
    exact ⟨A, c, e1, g1, g2.upN (by omega), g3⟩
end Go.Proofs.Ytgcihcgclmdolaa
