/- A run of the machine in memory: what is left of the input, the events. No condition. -/
import Derived.Test.YtgcihcgclmdolaaMachF
import Derived.Test.YtgcihcgclmdolaaMachR
import Derived.Test.YtgcihcgclmdolaaPush
namespace Go.Proofs.Ytgcihcgclmdolaa
open Go.RowKit Go.Maps Go.Proofs.Ytgcihcgclmdolaa.PC Go.Proofs.Ytgcihcgclmdolaa.PW
set_option linter.unusedVariables false
set_option linter.unusedSimpArgs false
structure Ev where
  kind : Int
  word : Int
  real : Int
def evC (l : List Ev) : List Value := l.flatMap fun e => [.int .i64 e.kind, .int .u32 e.word, .int .u64 e.real]
theorem evC_snoc (l : List Ev) (e : Ev) : evC (l ++ [e]) = evC l ++ [.int .i64 e.kind, .int .u32 e.word, .int .u64 e.real] := by simp [evC]
/-- A run: the machine, what is left of its input, its events. -/
structure RS where
  s : MS
  inp : List Int
  ev : List Ev
/-- Words in memory, below a block, and not where the machine stands. -/
def Words (w : World) (b1 M B K : Nat) (v : Value) (l : List Int) : Prop :=
  (∃ A c, v = .slice A l.length c ∧ l.length ≤ c ∧ (l ≠ [] → ∃ I off, A = some ⟨I, off, none⟩ ∧ I < b1 ∧ I ≠ M ∧ I ≠ B ∧ I ≠ K ∧ ∀ i, i < l.length → w.cell? ⟨I, off + i, none⟩ = some (.int .u32 (l.getD i 0)))) ∧ (∀ x ∈ l, U x) ∧ l.length ≤ 140737488355328
theorem Words.at {w w' : World} {b1 M B K : Nat} {v : Value} {l : List Int} (h : Words w b1 M B K v l) (g : ∀ I, I < b1 → I ≠ M → I ≠ B → I ≠ K → I < w.heap.size → w'.heap[I]? = w.heap[I]?) : Words w' b1 M B K v l := by
  obtain ⟨⟨A, c, hv, hc, hA⟩, hu, hl⟩ := h
  refine ⟨⟨A, c, hv, hc, fun hne => ?_⟩, hu, hl⟩
  obtain ⟨I, off, e, h1, h2, h3, h4, hcell⟩ := hA hne
  refine ⟨I, off, e, h1, h2, h3, h4, fun i hi => ?_⟩
  have hx := hcell i hi
  have hI : I < w.heap.size := by
    obtain ⟨b, o, e1, e2⟩ := cell_some hx
    cases e1
    exact e2
  rw [World.cell?_of_block (w := w) (g I h1 h2 h3 h4 hI)]
  exact hx
theorem row_at {w w' : World} {base : Nat} {e : TypeId} {size : Nat} {v : Value} {n : Nat} {xs : List Value} (h : w.ownsRow base e size v n xs) (g : ∀ j, v.ownBlock = some j → j < w.heap.size → w'.heap[j]? = w.heap[j]?) : w'.ownsRow base e size v n xs := by
  refine ⟨h.1, ?_⟩
  rcases h.2 with hn | ⟨j, cap, cur, hv, hb, hgg, rest⟩
  · exact .inl hn
  · have hj : j < w.heap.size := (Array.getElem?_eq_some_iff.1 hgg).1
    exact .inr ⟨j, cap, cur, hv, hb, (g j (by rw [hv]; rfl) hj).trans hgg, rest⟩
/-- A run in memory. -/
structure Rat (w : World) (b1 R M B K : Nat) (r : RS) (N : Nat) : Prop where
  mac : Mac w M B K r.s N
  run : ∃ iv ev, Blk w R #[.pointer (some ⟨M, 0, none⟩), iv, ev] 82 ∧ Words w b1 M B K iv r.inp ∧ w.ownsRow b1 45 3 ev r.ev.length (evC r.ev) ∧ ev.ownBlock ≠ some R
  lR : b1 ≤ R
  lM : M < b1
  lB : B < b1
  lK : K < b1
  le : r.ev.length ≤ N
/-- What a run may write. -/
def SR (b1 b2 M B K : Nat) : Nat → Prop := fun k => k = M ∨ k = B ∨ k = K ∨ b1 ≤ k ∧ k < b2
/-- A run's own blocks lie below. -/
def TopB (w : World) (R M b2 : Nat) : Prop := R < b2 ∧ ∀ iv ev, Blk w R #[.pointer (some ⟨M, 0, none⟩), iv, ev] 82 → ∀ j, ev.ownBlock = some j → j < b2
theorem TopB.mod {S : Nat → Prop} {w w' : World} {R M b2 : Nat} (h : TopB w R M b2) (g : Mod S w w') (hn : ¬S R) (hR : R < w.heap.size) : TopB w' R M b2 :=
  ⟨h.1, fun iv ev hb => h.2 iv ev ((g.block R hR hn).symm.trans hb)⟩
theorem TopB.kp {w w' : World} {R M b2 : Nat} (h : TopB w R M b2) (g : Kp w w') (hR : R < w.heap.size) : TopB w' R M b2 := h.mod (S := fun _ => False) g.mod id hR
theorem Rat.kp {w w' : World} {b1 R M B K N : Nat} {r : RS} (h : Rat w b1 R M B K r N) (g : Kp w w') : Rat w' b1 R M B K r N := by
  obtain ⟨iv, ev, hb, hw, ho, hn⟩ := h.run
  exact ⟨h.mac.kp g, ⟨iv, ev, hb.kp g, hw.at (fun I _ _ _ _ hI => g.block hI), row_at ho (fun j _ hj => g.block hj), hn⟩, h.lR, h.lM, h.lB, h.lK, h.le⟩
/-- The machine alone was written. -/
theorem Rat.turn {w w' : World} {b1 R M B K N N' : Nat} {r : RS} {s' : MS} {S : Nat → Prop} (h : Rat w b1 R M B K r N) (g : Mod S w w') (hS : ∀ k, S k → k = M ∨ k = B ∨ k = K) (hm : Mac w' M B K s' N') (hN : N ≤ N') : Rat w' b1 R M B K { r with s := s' } N' := by
  obtain ⟨iv, ev, hb, hw, ho, hn⟩ := h.run
  have hbig : ∀ k, b1 ≤ k → ¬S k := fun k hk e => by
    have h1 := h.lM
    have h2 := h.lB
    have h3 := h.lK
    rcases hS k e with e | e | e <;> omega
  refine ⟨hm, ⟨iv, ev, g.blk hb (hbig R h.lR), hw.at (fun I _ h1 h2 h3 hI => g.block I hI (fun e => ?_)), row_at ho (fun j hj hl => g.block j hl (hbig j (own_ge ho j hj))), hn⟩, h.lR, h.lM, h.lB, h.lK, Nat.le_trans h.le hN⟩
  rcases hS I e with e | e | e
  · exact h1 e
  · exact h2 e
  · exact h3 e
theorem Rat.setM {w : World} {b1 R M B K N i : Nat} {r : RS} {s' : MS} {v : Value} (h : Rat w b1 R M B K r N) (hc : (r.s.cells B K).setIfInBounds i v = s'.cells B K) (hm : s'.mem = r.s.mem) (ho : s'.ok) : Rat (w.setCell ⟨M, i, none⟩ v) b1 R M B K { r with s := s' } N :=
  h.turn (S := fun k => k = M) ((Mod.refl (fun k => k = M) w).setCell (p := ⟨M, i, none⟩) rfl v) (fun k e => Or.inl e) (h.mac.setM hc hm ho) (Nat.le_refl _)
/-- The memory's bytes alone were written. -/
theorem Rat.setB {w w' : World} {b1 R M B K N : Nat} {r : RS} {mem : List Int} (h : Rat w b1 R M B K r N) (g : Mod (fun k => k = B) w w') (hb : Blk w' B (memC mem) 5) (hl : mem.length = r.s.mem.length) (hby : ∀ b ∈ mem, Byte b) : Rat w' b1 R M B K { r with s := { r.s with mem := mem } } N := by
  refine h.turn g (fun k e => Or.inr (Or.inl e)) ⟨?_, hb, ?_, h.mac.nmb, h.mac.nmk, h.mac.nbk, ?_⟩ (Nat.le_refl _)
  · have := g.blk h.mac.m h.mac.nmb
    have e : ({ r.s with mem := mem } : MS).cells B K = r.s.cells B K := by simp [MS.cells, MS.cellsL, MS.head, hl]
    rw [e]
    exact this
  · obtain ⟨D, hD, hd⟩ := h.mac.k
    exact ⟨D, own_mod hD g (fun e => h.mac.nbk e.symm), hd⟩
  · have ho := h.mac.ok
    exact ⟨ho.lx, ho.lf, ho.ux, ho.uf, hby, ho.up, ho.uc, by rw [show ({ r.s with mem := mem } : MS).mem = mem from rfl, hl]; exact ho.lm⟩
theorem Rat.facts {w : World} {b1 R M B K N : Nat} {r : RS} (h : Rat w b1 R M B K r N) : ∃ iv ev, Blk w R #[.pointer (some ⟨M, 0, none⟩), iv, ev] 82 ∧ Words w b1 M B K iv r.inp ∧ w.ownsRow b1 45 3 ev r.ev.length (evC r.ev) ∧ ev.ownBlock ≠ some R ∧ R < w.heap.size ∧ w.cell? ⟨R, 0, none⟩ = some (.pointer (some ⟨M, 0, none⟩)) ∧ w.cell? ⟨R, 1, none⟩ = some iv ∧ w.cell? ⟨R, 2, none⟩ = some ev := by
  obtain ⟨iv, ev, hb, hw, ho, hn⟩ := h.run
  exact ⟨iv, ev, hb, hw, ho, hn, hb.lt, hb.cell 0, hb.cell 1, hb.cell 2⟩
/-- A register of words set; the first stays 0 only behind a step. -/
def MS.setx (s : MS) (d : Nat) (v : Int) : MS := { s with x := s.x.set d v }
def MS.setf (s : MS) (d : Nat) (v : Int) : MS := { s with f := s.f.set d v }
def RS.on (r : RS) (s : MS) : RS := { r with s := s }
end Go.Proofs.Ytgcihcgclmdolaa
