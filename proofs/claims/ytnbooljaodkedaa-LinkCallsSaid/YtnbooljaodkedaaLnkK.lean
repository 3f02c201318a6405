/- An object in memory; what stops its check is caught; names seen. Conditions stand at each. · An object is checked, walked. Condition: it lies in memory. · An object is checked, walked: the whole. Condition: it lies in memory. · Objects in a row: those that are none, walked. Condition: they lie in memory. · What objects define, walked. Condition: they lie in memory. · What objects define, walked: the whole. Condition: they lie in memory. -/
import Derived.Test.YtnbooljaodkedaaLnkE
import Derived.Test.YtnbooljaodkedaaMachE
import Derived.Test.YtnbooljaodkedaaPlainLnkB
import Derived.Maps.OwnSet
namespace Go.Proofs.Ytnbooljaodkedaa
open Go.RowKit Go.Maps Go.Proofs.Ytnbooljaodkedaa.PC Go.Proofs.Ytnbooljaodkedaa.PW
set_option linter.unusedVariables false
set_option linter.unusedSimpArgs false
/-- A number that an int holds. -/
def I64 (x : Int) : Prop := -9223372036854775808 ≤ x ∧ x ≤ 9223372036854775807
def BytesAt (w : World) (A : Option Addr) (xs : List Int) : Prop := xs ≠ [] → ∃ g off, A = some ⟨g, off, none⟩ ∧ g < w.heap.size ∧ ∀ i, i < xs.length → w.cell? ⟨g, off + i, none⟩ = some (.int .u8 (xs.getD i 0))
def SymsAt (w : World) (A : Option Addr) (l : List SymV) : Prop := l ≠ [] → ∃ g off, A = some ⟨g, off, none⟩ ∧ g < w.heap.size ∧ ∀ i s, l[i]? = some s → w.cell? ⟨g, off + i * 5, none⟩ = some (.string s.name) ∧ w.cell? ⟨g, off + i * 5 + 1, none⟩ = some (.int .i64 s.sect) ∧ w.cell? ⟨g, off + i * 5 + 2, none⟩ = some (.int .i64 s.val) ∧ w.cell? ⟨g, off + i * 5 + 3, none⟩ = some (.int .i64 s.frame) ∧ w.cell? ⟨g, off + i * 5 + 4, none⟩ = some (.bool s.glob)
def RelsAt (w : World) (A : Option Addr) (l : List RelV) : Prop := l ≠ [] → ∃ g off, A = some ⟨g, off, none⟩ ∧ g < w.heap.size ∧ ∀ i r, l[i]? = some r → w.cell? ⟨g, off + i * 5, none⟩ = some (.int .i64 r.sect) ∧ w.cell? ⟨g, off + i * 5 + 1, none⟩ = some (.int .i64 r.at_) ∧ w.cell? ⟨g, off + i * 5 + 2, none⟩ = some (.int .i64 r.kind) ∧ w.cell? ⟨g, off + i * 5 + 3, none⟩ = some (.int .i64 r.sym) ∧ w.cell? ⟨g, off + i * 5 + 4, none⟩ = some (.int .i64 r.add)
/-- An object's values are of their types. -/
structure ObjV.wf (o : ObjV) : Prop where
  text : ∀ i, U (o.text.getD i 0)
  data : ∀ x ∈ o.data, Byte x
  name : ∀ s ∈ o.syms, s.name.size ≤ 140737488355328
  sym : ∀ s ∈ o.syms, I64 s.sect ∧ I64 s.val ∧ I64 s.frame
  rel : ∀ r ∈ o.rels, I64 r.sect ∧ I64 r.at_ ∧ I64 r.kind ∧ I64 r.sym ∧ I64 r.add
  size : o.text.length ≤ 140737488355328 ∧ o.data.length ≤ 140737488355328 ∧ o.syms.length ≤ 140737488355328 ∧ o.rels.length ≤ 140737488355328
/-- An object's four slices, readable. -/
structure ObjAt (w : World) (A : Option Addr) (nt : Nat) (B : Option Addr) (nd : Nat) (C : Option Addr) (ns : Nat) (D : Option Addr) (nr : Nat) (o : ObjV) : Prop where
  nt : o.text.length = nt
  nd : o.data.length = nd
  ns : o.syms.length = ns
  nr : o.rels.length = nr
  text : WordsAt w A o.text
  data : BytesAt w B o.data
  syms : SymsAt w C o.syms
  rels : RelsAt w D o.rels
theorem WordsAt.kp {w w' : World} {A : Option Addr} {l : List Int} (h : WordsAt w A l) (k : Kp w w') : WordsAt w' A l := fun hne => by
  obtain ⟨g, off, e, hg, hc⟩ := h hne
  exact ⟨g, off, e, Nat.lt_of_lt_of_le hg k.size, fun i hi => (k.cell (p := ⟨g, off + i, none⟩) hg).trans (hc i hi)⟩
theorem BytesAt.kp {w w' : World} {A : Option Addr} {l : List Int} (h : BytesAt w A l) (k : Kp w w') : BytesAt w' A l := fun hne => by
  obtain ⟨g, off, e, hg, hc⟩ := h hne
  exact ⟨g, off, e, Nat.lt_of_lt_of_le hg k.size, fun i hi => (k.cell (p := ⟨g, off + i, none⟩) hg).trans (hc i hi)⟩
theorem SymsAt.kp {w w' : World} {A : Option Addr} {l : List SymV} (h : SymsAt w A l) (k : Kp w w') : SymsAt w' A l := fun hne => by
  obtain ⟨g, off, e, hg, hc⟩ := h hne
  refine ⟨g, off, e, Nat.lt_of_lt_of_le hg k.size, fun i s hs => ?_⟩
  obtain ⟨q0, q1, q2, q3, q4⟩ := hc i s hs
  exact ⟨(k.cell (p := ⟨g, _, none⟩) hg).trans q0, (k.cell (p := ⟨g, _, none⟩) hg).trans q1, (k.cell (p := ⟨g, _, none⟩) hg).trans q2, (k.cell (p := ⟨g, _, none⟩) hg).trans q3, (k.cell (p := ⟨g, _, none⟩) hg).trans q4⟩
theorem RelsAt.kp {w w' : World} {A : Option Addr} {l : List RelV} (h : RelsAt w A l) (k : Kp w w') : RelsAt w' A l := fun hne => by
  obtain ⟨g, off, e, hg, hc⟩ := h hne
  refine ⟨g, off, e, Nat.lt_of_lt_of_le hg k.size, fun i s hs => ?_⟩
  obtain ⟨q0, q1, q2, q3, q4⟩ := hc i s hs
  exact ⟨(k.cell (p := ⟨g, _, none⟩) hg).trans q0, (k.cell (p := ⟨g, _, none⟩) hg).trans q1, (k.cell (p := ⟨g, _, none⟩) hg).trans q2, (k.cell (p := ⟨g, _, none⟩) hg).trans q3, (k.cell (p := ⟨g, _, none⟩) hg).trans q4⟩
theorem ObjAt.kp {w w' : World} {A : Option Addr} {nt : Nat} {B : Option Addr} {nd : Nat} {C : Option Addr} {ns : Nat} {D : Option Addr} {nr : Nat} {o : ObjV} (h : ObjAt w A nt B nd C ns D nr o) (k : Kp w w') : ObjAt w' A nt B nd C ns D nr o :=
  ⟨h.nt, h.nd, h.ns, h.nr, h.text.kp k, h.data.kp k, h.syms.kp k, h.rels.kp k⟩
theorem taE_nil (w : World) : (Instr.typeAssert .nilIface 20 29 true).run Try.prog w = .ok (.tuple #[.int .i64 0, .bool false]) w := by kernel_rfl
set_option maxRecDepth 100000 in
theorem taE_err (n : Int) (w : World) : (Instr.typeAssert (.iface 29 (.int .i64 n)) 20 29 true).run Try.prog w = .ok (.tuple #[.int .i64 n, .bool true]) w := by rfl
theorem frame9 (p : Value) : (#[p] ++ Array.replicate 9 undef : Array Value) = #[p, undef, undef, undef, undef, undef, undef, undef, undef, undef] := rfl
set_option maxRecDepth 100000 in
theorem check_idle (p : Addr) (w : World) : CallsD Try.prog 66 #[.pointer (some p)] .returning w fun e u' w' => e = .returned (.tuple #[]) ∧ u' = .returning ∧ w' = w := by
  refine callsD_of_wpS Try.func66 rfl fun c₀ cs hu => ?_
  apply wpS_seq
  apply wpS_region
  simp [wpOpsS, go_sem, recoverD, hu, Try.ntmps66, Exit.thenS, frame9, taE_nil]
  apply wpS_seq
  apply wpS_region
  simp [wpOpsS, go_sem, Exit.thenS]
  refine wpS_cond (t := false) (by simp [Act.eval]) ?_
  simp only [Bool.false_eq_true, if_false]
  refine wpS_of_wp (wp_skip ?_)
  cases c₀
  simp_all [bodyPostS, results, Try.results66]
set_option maxRecDepth 100000 in
theorem check_caught {w : World} {b : Nat} (n : Int) (older : List PanicEntry) {y : Int} (hb : w.cell? ⟨b, 0, none⟩ = some (.int .i64 y)) (fb : w.frozen? ⟨b, 0, none⟩ = false) :
    CallsD Try.prog 66 #[.pointer (some ⟨b, 0, none⟩)] (.panicking ({ v := .iface 29 (.int .i64 n), recovered := false } :: older)) w fun e u' w' =>
      e = .returned (.tuple #[]) ∧ u' = .panicking ({ v := .iface 29 (.int .i64 n), recovered := true } :: older) ∧ w' = w.setCell ⟨b, 0, none⟩ (.int .i64 n) := by
  refine callsD_of_wpS Try.func66 rfl fun c₀ cs hu => ?_
  apply wpS_seq
  apply wpS_region
  simp [wpOpsS, go_sem, recoverD, hu, Try.ntmps66, Exit.thenS, frame9, taE_err]
  apply wpS_seq
  apply wpS_region
  simp [wpOpsS, go_sem, Exit.thenS]
  refine wpS_cond (t := true) (by simp [Act.eval]) ?_
  simp only [if_true]
  refine wpS_of_wp ?_
  go_wp2
  cases c₀
  simp_all [bodyPostS, results, Try.results66]
/-- The names seen, each once. -/
def kS (n : ByteArray) : Lit := .string n.data.toList
def seenD (l : List SymV) : DataW Unit := l.foldl (fun D s => D.put (kS s.name) (.lit (.int .i64 1))) (.map [])
theorem seenD_snoc (l : List SymV) (s : SymV) : seenD (l ++ [s]) = (seenD l).put (kS s.name) (.lit (.int .i64 1)) := by simp [seenD, List.foldl_append]
theorem seenD_map (l : List SymV) : IsMap (seenD l) := by
  have : ∀ (l : List SymV) (D : DataW Unit), IsMap D → IsMap (l.foldl (fun D s => D.put (kS s.name) (.lit (.int .i64 1))) D) := by
    intro l
    induction l with
    | nil => exact fun D h => h
    | cons s l ih => exact fun D h => ih _ (h.put _ _)
  exact this l _ isMap_empty
theorem kS_inj {a b : ByteArray} (h : kS a = kS b) : a = b := by
  unfold kS at h
  injection h with h
  cases a
  cases b
  simp only at h
  congr
  exact Array.toList_inj.1 h
theorem seenD_at (l : List SymV) (n : ByteArray) (z : DataW Unit) : (seenD l).atKey (kS n) z = if ∃ s ∈ l, s.name = n then .lit (.int .i64 1) else z := by
  have key : ∀ m : List SymV, (seenD m.reverse).atKey (kS n) z = if ∃ s ∈ m.reverse, s.name = n then .lit (.int .i64 1) else z := by
    intro m
    induction m with
    | nil => simp [seenD, DataW.atKey]
    | cons s m ih =>
      rw [List.reverse_cons, seenD_snoc]
      by_cases e : s.name = n
      · subst e
        rw [atKey_put_same (seenD_map _) (by simp [kS, WideAt.IsKeyLit])]
        rw [if_pos ⟨s, by simp, rfl⟩]
      · rw [atKey_put_other (fun h => e (kS_inj h).symm), ih]
        congr 1
        simp only [List.mem_append, List.mem_singleton, eq_iff_iff]
        constructor
        · rintro ⟨t, h, ht⟩
          exact ⟨t, Or.inl h, ht⟩
        · rintro ⟨t, h | rfl, ht⟩
          · exact ⟨t, h, ht⟩
          · exact absurd ht e
  have h := key l.reverse
  rwa [List.reverse_reverse] at h
theorem seen_c {l : List SymV} {n : ByteArray} {c : Int} (h : (seenD l).atKey (kS n) (.lit (.int .i64 0)) = .lit (.int .i64 c)) : (c = 0 ∧ ∀ s ∈ l, s.name ≠ n) ∨ (c = 1 ∧ ∃ s ∈ l, s.name = n) := by
  rw [seenD_at] at h
  split at h
  · rename_i hs
    injection h with h
    injection h with _ h
    exact Or.inr ⟨h.symm, hs⟩
  · rename_i hs
    injection h with h
    injection h with _ h
    exact Or.inl ⟨h.symm, fun s hm e => hs ⟨s, hm, e⟩⟩
theorem lawS : Keyed Try.prog 9 := string_keyed Try.underlying9
theorem zeroI (w : World) : (zeroValue 3).run Try.prog w = .ok (.int .i64 0) w := by kernel_rfl
theorem keyS {n : ByteArray} (h : n.size ≤ 140737488355328) : keyOf Try.prog 9 (.string n) = some (kS n) := WideMaps.keyOf_string_mk Try.underlying9 (by unfold maxLen; omega)
end Go.Proofs.Ytnbooljaodkedaa
namespace Go.Proofs.Ytnbooljaodkedaa
open Go.RowKit Go.Maps Go.Proofs.Ytnbooljaodkedaa.PC Go.Proofs.Ytnbooljaodkedaa.PW
set_option linter.unusedVariables false
set_option linter.unusedSimpArgs false
/-- What Check comes to. -/
def ChkR (w : World) (o : ObjV) (e : Ending) (w' : World) : Prop := ∃ c : Int, e = .returned (.int .i64 c) ∧ (c = 0 ∧ objOk o ∨ c = 2 ∧ ¬objOk o) ∧ Kp w w'
theorem make_fnC (fn : Fn) (first cap : Array Value) (w : World) : (Instr.makeFunc fn first cap).run Try.prog w = .ok (.func fn first cap) w := rfl
theorem check_dies {w W : World} {o : ObjV} {tm : Array Value} (ht : tm.getD 2 undef = .pointer (some ⟨w.heap.size + 1, 0, none⟩)) (hno : ¬objOk o) (hk : Kp w W) (hb : Blk W (w.heap.size + 1) #[.int .i64 0] 29) :
    bodyPostD Try.prog Try.f44 (ChkR w o) (Exit.panic thrownF) { tmps := tm, defers := [{ target := .fn (.func 66) #[.pointer (some ⟨w.heap.size + 1, 0, none⟩)], args := #[] }] } W := by
  have ce : W.cell? ⟨w.heap.size + 1, 0, none⟩ = some (.int .i64 0) := hb.cell 0
  have fe := hb.frozen 0
  show Leaves _ _ _ _ _ (.panicking thrownF) _
  refine leaves_cons (f := 66) (args := #[.pointer (some ⟨w.heap.size + 1, 0, none⟩)]) (by simp) (by simp [go_sem]) ?_
  refine (check_caught (w := W) 2 [] ce fe).mono ?_
  rintro e u' w'' ⟨rfl, rfl, rfl⟩
  have bw : (W.setCell ⟨w.heap.size + 1, 0, none⟩ (.int .i64 2)).cell? ⟨w.heap.size + 1, 0, none⟩ = some (.int .i64 2) := World.cell?_setCell_same _ _ _ ce
  have ht' : tm[2]?.getD undef = .pointer (some ⟨w.heap.size + 1, 0, none⟩) := by simpa using ht
  simp [Leaves, settle, results, Try.results44, go_sem, bw, ht']
  exact ⟨2, rfl, Or.inr ⟨rfl, hno⟩, hk.setCell (p := ⟨w.heap.size + 1, 0, none⟩) (Nat.le_succ _) _⟩
theorem blk_e (w : World) (cs : Array Value) (ty : TypeId) : Blk ((w.alloc (.cells cs ty)).alloc (.cells #[.int .i64 0] 29)) (w.heap.size + 1) #[.int .i64 0] 29 := by
  have hb := Blk.new (w.alloc (.cells cs ty)) #[.int .i64 0] 29
  rwa [World.size_alloc] at hb
theorem relC_ok {w : World} {A : Option Addr} {nt ct : Nat} {B : Option Addr} {nd cd : Nat} {C : Option Addr} {ns cs : Nat} {D : Option Addr} {nr cr : Nat} {o : ObjV} (h : ObjAt w A nt B nd C ns D nr o) (hwf : o.wf) (r : RelV) (hr : relAt o.text nd r) :
    Calls Try.prog 71 #[.agg #[.slice A nt ct, .slice B nd cd, .slice C ns cs, .slice D nr cr], .agg #[.int .i64 r.sect, .int .i64 r.at_, .int .i64 r.kind, .int .i64 r.sym, .int .i64 r.add]] w fun e w' => e = .returned (.tuple #[]) ∧ Kp w w' := by
  have b1 := hwf.size.2.1
  have b2 := h.nd
  rcases hr with ⟨h1, h2, h3, h4, h5⟩ | ⟨h1, h2, h3, h4⟩
  · rw [h1]
    exact rel2_ok A ct B nd cd C ns cs D nr cr nt (by omega) r.kind r.at_ r.sym r.add h2 h3 h4 h5 w
  · rw [h1]
    exact rel1_ok A ct B nd cd C ns cs D nr cr h.text h.nt r.kind r.at_ r.sym r.add h2 (by rw [← h.nt]; exact h3) (hwf.text _) h4
theorem relC_no {w : World} {A : Option Addr} {nt ct : Nat} {B : Option Addr} {nd cd : Nat} {C : Option Addr} {ns cs : Nat} {D : Option Addr} {nr cr : Nat} {o : ObjV} (h : ObjAt w A nt B nd C ns D nr o) (hwf : o.wf) (r : RelV) (hr : ¬relAt o.text nd r) :
    Calls Try.prog 71 #[.agg #[.slice A nt ct, .slice B nd cd, .slice C ns cs, .slice D nr cr], .agg #[.int .i64 r.sect, .int .i64 r.at_, .int .i64 r.kind, .int .i64 r.sym, .int .i64 r.add]] w fun e w' => e = .panicked thrownF ∧ Kp w w' := by
  have b1 := hwf.size.2.1
  have b2 := h.nd
  by_cases h2 : r.sect = 2
  · have h3 : ¬(r.kind = 6 ∧ 0 ≤ r.at_ ∧ r.at_ % 4 = 0 ∧ r.at_ ≤ (nd : Int) - 4) := fun e => hr (Or.inl ⟨h2, e⟩)
    rw [h2]
    exact rel2_no A ct B nd cd C ns cs D nr cr nt (by omega) r.kind r.at_ r.sym r.add h3 w
  by_cases h1 : r.sect = 1 ∧ 0 ≤ r.at_ ∧ r.at_ < nt
  · obtain ⟨e1, e2, e3⟩ := h1
    rw [e1]
    exact rel1_bad A ct B nd cd C ns cs D nr cr h.text h.nt r.kind r.at_ r.sym r.add e2 e3 (hwf.text _) (fun e => hr (Or.inr ⟨e1, e2, by rw [h.nt]; exact e3, e⟩))
  · exact rel1_no A ct B nd cd C ns cs D nr cr nt r.sect r.kind r.at_ r.sym r.add h2 h1 w
set_option maxRecDepth 100000 in
set_option maxHeartbeats 4000000 in
theorem Check_big {w : World} {A : Option Addr} {nt ct : Nat} {B : Option Addr} {nd cd : Nat} {C : Option Addr} {ns cs : Nat} {D : Option Addr} {nr cr : Nat} {o : ObjV} (h : ObjAt w A nt B nd C ns D nr o) (hno : ¬objOk o) (hsz : ¬(nt ≤ 65536 ∧ nd ≤ 65536 ∧ nd % 8 = 0 ∧ ns ≤ 600 ∧ nr ≤ 65536)) :
    Calls Try.prog 44 #[.agg #[.slice A nt ct, .slice B nd cd, .slice C ns cs, .slice D nr cr]] w (ChkR w o) := by
  have hmf := make_fnC
  replace h := Aside.mk h
  replace hno := Aside.mk hno
  by_cases h1 : 65536 < nt
  · clear hsz
    go_enter_defers Try.func44, Try.ntmps44; go_wp2_with ((go_at_call 67); (refine (need_no _).mono ?_); (rintro e w1 ⟨rfl, rfl⟩)); exact check_dies rfl hno.out (((Kp.refl w).alloc _).alloc _) (blk_e _ _ _)
  by_cases h2 : 65536 < nd
  · clear hsz
    go_enter_defers Try.func44, Try.ntmps44; go_wp2_with ((go_at_call 67); (refine (need_no _).mono ?_); (rintro e w1 ⟨rfl, rfl⟩)); exact check_dies rfl hno.out (((Kp.refl w).alloc _).alloc _) (blk_e _ _ _)
  by_cases h3 : nd % 8 = 0
  · have g3 : ((nd : Int) % 8 == 0) = true := by simp; omega
    replace h3 := Aside.mk h3
    by_cases h4 : 600 < ns
    · clear hsz
      go_enter_defers Try.func44, Try.ntmps44; go_wp2_with ((go_at_call 67); (refine (need_no _).mono ?_); (rintro e w1 ⟨rfl, rfl⟩)); exact check_dies rfl hno.out (((Kp.refl w).alloc _).alloc _) (blk_e _ _ _)
    have h5 : decide ((nr : Int) ≤ 65536) = false := decide_eq_false (by have := h3.out; omega)
    clear hsz
    go_enter_defers Try.func44, Try.ntmps44; go_wp2_with ((go_at_call 67); (refine (need_no _).mono ?_); (rintro e w1 ⟨rfl, rfl⟩)); exact check_dies rfl hno.out (((Kp.refl w).alloc _).alloc _) (blk_e _ _ _)
  · have g3 : ((nd : Int) % 8 == 0) = false := beq_eq_false_iff_ne.2 (by omega)
    clear hsz h3
    go_enter_defers Try.func44, Try.ntmps44; go_wp2_with ((go_at_call 67); (refine (need_no _).mono ?_); (rintro e w1 ⟨rfl, rfl⟩)); exact check_dies rfl hno.out (((Kp.refl w).alloc _).alloc _) (blk_e _ _ _)
end Go.Proofs.Ytnbooljaodkedaa
namespace Go.Proofs.Ytnbooljaodkedaa
open Go.RowKit Go.Maps Go.Proofs.Ytnbooljaodkedaa.PC Go.Proofs.Ytnbooljaodkedaa.PW
set_option linter.unusedVariables false
set_option linter.unusedSimpArgs false
theorem ownS_kp {w w' : World} {T : TypeId} {R : Value → Option (DataW Unit × List MemPlace)} {b n : Nat} {D : DataW Unit} (h : w.ownsMap Try.prog T R b n D) (k : Kp w w') : w'.ownsMap Try.prog T R b n D := by
  have hl := h.lt
  obtain ⟨es, clock, hb, r⟩ := h
  exact ⟨es, clock, (k.block hl).trans hb, r⟩
theorem grown_blk {w w' : World} {row : Option Nat} {b : Nat} {cs : Array Value} {ty : TypeId} (h : Blk w b cs ty) (hg : w.grownBy w' row) (hne : some b ≠ row) : Blk w' b cs ty := (hg.block b h.lt hne).trans h
theorem wf_c {c : Int} (h : 0 ≤ c ∧ c ≤ 1) : (Lit.int .i64 (c + 1)).wf = true := WalkArith.wf_i64 ⟨by omega, by omega⟩
theorem seen_b {l : List SymV} {n : ByteArray} {c : Int} (h : (seenD l).atKey (kS n) (.lit (.int .i64 0)) = .lit (.int .i64 c)) : 0 ≤ c ∧ c ≤ 1 := by
  rcases seen_c h with ⟨rfl, _⟩ | ⟨rfl, _⟩ <;> decide
/-- The symbols so far are good. -/
def symsGood (nt nd : Nat) (l : List SymV) : Prop := (∀ s ∈ l, nameV s.name = true ∧ symOk nt nd s = true) ∧ apart l
theorem symsGood_nil {nt nd : Nat} : symsGood nt nd [] := ⟨fun s hs => by simp at hs, List.Pairwise.nil⟩
theorem symsGood_snoc {nt nd : Nat} {l : List SymV} {s : SymV} (h : symsGood nt nd l) (h1 : nameV s.name = true) (h2 : symOk nt nd s = true) (h3 : ∀ t ∈ l, t.name ≠ s.name) : symsGood nt nd (l ++ [s]) := by
  refine ⟨fun t ht => ?_, ?_⟩
  · rcases List.mem_append.1 ht with ht | ht
    · exact h.1 t ht
    · obtain rfl := List.mem_singleton.1 ht
      exact ⟨h1, h2⟩
  · unfold apart
    rw [List.pairwise_append]
    exact ⟨h.2, List.pairwise_singleton _ _, fun a ha b hb => by obtain rfl := List.mem_singleton.1 hb; exact h3 a ha⟩
theorem take_snoc' {α : Type} {l : List α} {k : Nat} {x : α} (h : l[k]? = some x) : l.take (k + 1) = l.take k ++ [x] := by rw [List.take_add_one, h]; rfl
theorem dup_no {o : ObjV} {k : Nat} {s : SymV} (h : o.syms[k]? = some s) (hd : ∃ t ∈ o.syms.take k, t.name = s.name) : ¬objOk o := by
  intro hok
  obtain ⟨t, ht, e⟩ := hd
  have ha := hok.2.2.1
  unfold apart at ha
  rw [← List.take_append_drop k o.syms, List.pairwise_append] at ha
  refine ha.2.2 t ht s ?_ e
  have hk : k < o.syms.length := (List.getElem?_eq_some_iff.1 h).1
  rw [List.mem_iff_getElem?]
  exact ⟨0, by rw [List.getElem?_drop, Nat.add_zero]; exact h⟩
/-- The relocations so far are good. -/
def relsGood (o : ObjV) (j : Nat) : Prop := ∀ i r, i < j → o.rels[i]? = some r → relLt (prevP o.rels i) (r.sect, r.at_) ∧ (0 ≤ r.sym ∧ r.sym < o.syms.length ∧ -2147483648 ≤ r.add ∧ r.add < 2147483648) ∧ relAt o.text o.data.length r
theorem rel_no {o : ObjV} {j : Nat} {r : RelV} (h : o.rels[j]? = some r) (hd : ¬(relLt (prevP o.rels j) (r.sect, r.at_) ∧ (0 ≤ r.sym ∧ r.sym < o.syms.length ∧ -2147483648 ≤ r.add ∧ r.add < 2147483648) ∧ relAt o.text o.data.length r)) : ¬objOk o := by
  intro hok
  obtain ⟨-, -, -, h4, h5⟩ := hok
  have hj : j < o.rels.length := (List.getElem?_eq_some_iff.1 h).1
  have h6 := h4 j hj
  have h7 := h5 r (List.mem_of_getElem? h)
  unfold pairAt at h6
  rw [h] at h6
  exact hd ⟨h6, h7.1, h7.2⟩
theorem all_ok {o : ObjV} (h0 : o.text.length ≤ 65536 ∧ o.data.length ≤ 65536 ∧ o.data.length % 8 = 0 ∧ o.syms.length ≤ 600 ∧ o.rels.length ≤ 65536) (h1 : symsGood o.text.length o.data.length o.syms) (h2 : relsGood o o.rels.length) : objOk o := by
  refine ⟨h0, h1.1, h1.2, fun j hj => ?_, fun r hr => ?_⟩
  · have h := h2 j _ hj (List.getElem?_eq_getElem hj)
    unfold pairAt
    rw [List.getElem?_eq_getElem hj]
    exact h.1
  · obtain ⟨j, hj, rfl⟩ := List.mem_iff_getElem.1 hr
    have h := h2 j _ hj (List.getElem?_eq_getElem hj)
    exact ⟨h.2.1, h.2.2⟩
theorem check_ends {w W : World} {o : ObjV} {tm : Array Value} (ht : tm.getD 2 undef = .pointer (some ⟨w.heap.size + 1, 0, none⟩)) (hok : objOk o) (hk : Kp w W) (hb : Blk W (w.heap.size + 1) #[.int .i64 0] 29) :
    bodyPostD Try.prog Try.f44 (ChkR w o) Exit.ret { tmps := tm, defers := [{ target := .fn (.func 66) #[.pointer (some ⟨w.heap.size + 1, 0, none⟩)], args := #[] }] } W := by
  have bw : W.cell? ⟨w.heap.size + 1, 0, none⟩ = some (.int .i64 0) := hb.cell 0
  show Leaves _ _ _ _ _ .returning _
  refine leaves_cons (f := 66) (args := #[.pointer (some ⟨w.heap.size + 1, 0, none⟩)]) (by simp) (by simp [go_sem]) ?_
  refine (check_idle _ _).mono ?_
  rintro e u' w'' ⟨rfl, rfl, rfl⟩
  have ht' : tm[2]?.getD undef = .pointer (some ⟨w.heap.size + 1, 0, none⟩) := by simpa using ht
  simp [Leaves, settle, results, Try.results44, go_sem, bw, ht']
  exact ⟨0, rfl, Or.inl ⟨rfl, hok⟩, hk⟩
set_option maxRecDepth 100000 in
set_option maxHeartbeats 40000000 in
theorem Check_calls {w : World} {A : Option Addr} {nt ct : Nat} {B : Option Addr} {nd cd : Nat} {C : Option Addr} {ns cs : Nat} {D : Option Addr} {nr cr : Nat} {o : ObjV} (h : ObjAt w A nt B nd C ns D nr o) (hwf : o.wf) :
    Calls Try.prog 44 #[.agg #[.slice A nt ct, .slice B nd cd, .slice C ns cs, .slice D nr cr]] w (ChkR w o) := by
  by_cases hsz : ¬(nt ≤ 65536 ∧ nd ≤ 65536 ∧ nd % 8 = 0 ∧ ns ≤ 600 ∧ nr ≤ 65536)
  · exact Check_big h (fun hok => hsz (by have := hok.1; rw [h.nt, h.nd, h.ns, h.nr] at this; exact this)) hsz
  obtain ⟨z1, z2, z3, z4, z5⟩ := Decidable.not_not.1 hsz
  have hsz2 : Aside (o.text.length ≤ 65536 ∧ o.data.length ≤ 65536 ∧ o.data.length % 8 = 0 ∧ o.syms.length ≤ 600 ∧ o.rels.length ≤ 65536) := ⟨by rw [h.nt, h.nd, h.ns, h.nr]; exact Decidable.not_not.1 hsz⟩
  clear hsz
  have hmf := make_fnC
  have hmm := @run_makeMap Try.prog
  have g3 : ((nd : Int) % 8 == 0) = true := by simp; omega
  have g5 : decide ((nr : Int) ≤ 65536) = true := decide_eq_true (by omega)
  replace z3 := Aside.mk z3
  have hns := Aside.mk h.ns
  have hnr := Aside.mk h.nr
  have hnt := Aside.mk h.nt
  have hnd := Aside.mk h.nd
  replace h := Aside.mk h
  replace hwf := Aside.mk hwf
  have b0 := Aside.mk ((Blk.new w #[.slice A nt ct, .slice B nd cd, .slice C ns cs, .slice D nr cr] 38).alloc (.cells #[.int .i64 0] 29))
  have b1 := Aside.mk (blk_e w #[.slice A nt ct, .slice B nd cd, .slice C ns cs, .slice D nr cr] 38)
  go_enter_defers Try.func44, Try.ntmps44
  go_wp2_with ((go_at_call 67); (refine (need_ok _).mono ?_); (rintro e w9 ⟨rfl, rfl⟩))
  go_loopw [45] (fun i wr => ∃ k : Nat, k ≤ ns ∧ i = .int .i64 k ∧ Kp w wr ∧ Blk wr w.heap.size #[.slice A nt ct, .slice B nd cd, .slice C ns cs, .slice D nr cr] 38 ∧ Blk wr (w.heap.size + 1) #[.int .i64 0] 29 ∧ wr.ownsMap Try.prog 9 (plainElem Try.prog 3) (w.heap.size + 1 + 1) k (seenD (o.syms.take k)) ∧ Aside (symsGood nt nd (o.syms.take k))) (fun i _ => ns - (intOf i).toNat)
  case atStart =>
    refine ⟨0, Nat.zero_le _, rfl, by repeat (with_reducible first | exact Kp.refl _ | assumption | exact Dr.kp (by assumption) | refine Kp.drewN ?_ _ | refine Kp.drew ?_ | refine Kp.alloc ?_ _ | refine Kp.setCell ?_ (by first | exact Nat.le_refl _ | assumption | omega) _ | refine Kp.trans ?_ (by assumption) | refine Kp.trans ?_ (Dr.kp (by assumption))), b0.out.alloc _, b1.out.alloc _, ?_, ⟨symsGood_nil⟩⟩
    have := World.ownsMap_made (H := Unit) ((w.alloc (.cells #[.slice A nt ct, .slice B nd cd, .slice C ns cs, .slice D nr cr] 38)).alloc (.cells #[.int .i64 0] 29)) Try.prog 9 (plainElem Try.prog 3)
    rw [World.size_alloc, World.size_alloc] at this
    exact this
  case round =>
    obtain ⟨k, hk, rfl, kp, c0, c1, hw, hgood⟩ := hrel
    by_cases hlt : k < ns
    · obtain ⟨s, hs⟩ : ∃ s, Aside (o.syms[k]? = some s) := ⟨_, ⟨List.getElem?_eq_getElem (by have := hns.out; omega)⟩⟩
      obtain ⟨g, off, hC, hg, hc⟩ := (h.out.syms.kp kp) (by intro e; have := hns.out; rw [e] at this; simp at this; omega)
      obtain ⟨q0, q1, q2, q3, q4⟩ := hc k s hs.out
      have hnm : Aside (s.name.size ≤ 140737488355328) := ⟨hwf.out.name s (List.mem_of_getElem? hs.out)⟩
      have hsnoc := Aside.mk (take_snoc' hs.out)
      have hdup0 := Aside.mk (dup_no hs.out)
      have hbad : Aside (nameV s.name = true ∧ symOk nt nd s = true ∨ ¬objOk o) := ⟨by
        by_cases e : nameV s.name = true ∧ symOk nt nd s = true
        · exact Or.inl e
        · exact Or.inr (fun hok => e (by have := hok.2.1 s (List.mem_of_getElem? hs.out); rwa [hnt.out, hnd.out] at this))⟩
      subst hC
      clear hc hs
      obtain ⟨nm, sect, val, frame, glob⟩ := s
      simp only at q0 q1 q2 q3 q4 hnm
      have hlw := hw.lt
      replace hw := Aside.mk hw
      replace kp := Aside.mk kp
      obtain ⟨-, o0, o1, o2, o3⟩ := c0.four
      replace c0 := Aside.mk c0
      replace c1 := Aside.mk c1
      go_upto_region 8 with (first | ((at_lookup); (refine wpList_lookup_own_int _ rfl _ _ 143 rfl 9 3 .i64 lawS Try.underlying143 Try.underlying3 (zeroI _) (w.heap.size + 1 + 1) k _ rfl (hw.out.alloc _) _ _ rfl (keyS hnm.out) ?_); (intro c hat hwc); (have hcb := seen_b hat); (replace hat := Aside.mk hat)) | ((at_mapUpdate); (refine wpList_mapUpdate_own _ rfl _ _ _ 143 rfl 9 3 lawS Try.underlying143 _ (w.heap.size + 1 + 1) k _ rfl (hw.out.alloc _) (by unfold maxLen; omega) _ _ _ rfl rfl (keyS hnm.out) _ [] (plainElem_int Try.underlying3 (wf_c hcb)) ?_); (intro w1 hw1 hg1)))
      have bs1 := grown_blk (Blk.new wr #[.string nm, .int .i64 sect, .int .i64 val, .int .i64 frame, .bool glob] 43) hg1 (by intro e; injection e with e; omega)
      have c01 := grown_blk (c0.out.alloc _) hg1 (by intro e; injection e with e; omega)
      have c11 := grown_blk (c1.out.alloc _) hg1 (by intro e; injection e with e; omega)
      have kp1 : Kp w w1 := (kp.out.alloc _).grown hg1 (fun j e => by cases e; omega)
      obtain ⟨c2, hrun, hat2, -⟩ := hw1.lookup_int lawS Try.underlying143 Try.underlying3 (zeroI _) (keyS hnm.out)
      rw [atKey_put_same (seenD_map _) (by simp [kS, WideAt.IsKeyLit])] at hat2
      have hc2 : Aside (c2 = c + 1) := ⟨by injection hat2 with hat2; injection hat2 with _ hat2; exact hat2.symm⟩
      clear hat2
      obtain ⟨-, s0, s1, s2, s3, s4, -⟩ := bs1.five
      obtain ⟨-, p0, p1, p2, p3⟩ := c01.four
      have l1 := bs1.lt
      have l2 := c01.lt
      replace bs1 := Aside.mk bs1
      replace c01 := Aside.mk c01
      replace c11 := Aside.mk c11
      replace kp1 := Aside.mk kp1
      replace hw1 := Aside.mk hw1
      clear hg1 q0 q1 q2 q3 q4 o0 o1 o2 o3 c0 c1 kp hw hlw
      by_cases hv : nameV nm = false
      · have hno : Aside (¬objOk o) := ⟨by rcases hbad.out with ⟨e, _⟩ | e; (rw [hv] at e; cases e); exact e⟩
        go_wp2_with (first | ((go_at_call 68); (refine (Name_calls _ hnm.out _).mono ?_); (rintro e w9 ⟨rfl, rfl⟩)) | ((go_at_call 67); (refine (need_no _).mono ?_); (rintro e w9 ⟨rfl, rfl⟩)))
        exact check_dies rfl hno.out kp1.out c11.out
      replace hv : nameV nm = true := by simpa using hv
      rcases seen_c hat.out with ⟨hc0, hfresh⟩ | ⟨hc1, hdup⟩
      case inr =>
        have hno := Aside.mk (hdup0.out hdup)
        have g1 : (c2 == 1) = false := by rw [hc2.out, hc1]; rfl
        clear hdup hat hc1
        go_wp2_with (first | ((go_at_call 68); (refine (Name_calls _ hnm.out _).mono ?_); (rintro e w9 ⟨rfl, rfl⟩)) | ((go_at_call 67); (refine (need_no _).mono ?_); (rintro e w9 ⟨rfl, rfl⟩)))
        exact check_dies rfl hno.out kp1.out c11.out
      have g1 : (c2 == 1) = true := by rw [hc2.out, hc0]; rfl
      have hcc : Aside (c + 1 = 1) := ⟨by rw [hc0]; rfl⟩
      clear hat hc0
      replace hfresh := Aside.mk hfresh
      by_cases hsy : symOk nt nd ⟨nm, sect, val, frame, glob⟩ = true
      · have hcall := Aside.mk (symbol_ok A nt ct B nd cd (some ⟨g, off, none⟩) ns cs D nr cr ⟨nm, sect, val, frame, glob⟩ hsy w1)
        have hgn := Aside.mk (symsGood_snoc hgood.out hv hsy hfresh.out)
        replace hsy := Aside.mk hsy
        go_wp2_with (first | ((go_at_call 68); (refine (Name_calls _ hnm.out _).mono ?_); (rintro e w9 ⟨rfl, rfl⟩)) | ((go_at_call 67); (refine (need_ok _).mono ?_); (rintro e w9 ⟨rfl, rfl⟩)) | ((go_at_call 69); (refine Calls.mono hcall.out ?_); (rintro e w2 ⟨rfl, k2⟩)))
        go_roundw
        case rel =>
          refine ⟨k + 1, by omega, by go_num, kp1.out.trans k2, c01.out.kp k2, c11.out.kp k2, ?_, ⟨by rw [hsnoc.out]; exact hgn.out⟩⟩
          rw [hsnoc.out, seenD_snoc]
          have := hw1.out
          rw [hcc.out] at this
          exact ownS_kp this k2
        case measure => simp [intOf]; omega
      · have hno : Aside (¬objOk o) := ⟨by rcases hbad.out with ⟨_, e⟩ | e; exact absurd e hsy; exact e⟩
        have hcall := Aside.mk (symbol_no A nt ct B nd cd (some ⟨g, off, none⟩) ns cs D nr cr ⟨nm, sect, val, frame, glob⟩ (by simpa using hsy) w1)
        replace hsy := Aside.mk hsy
        go_wp2_with (first | ((go_at_call 68); (refine (Name_calls _ hnm.out _).mono ?_); (rintro e w9 ⟨rfl, rfl⟩)) | ((go_at_call 67); (refine (need_ok _).mono ?_); (rintro e w9 ⟨rfl, rfl⟩)) | ((go_at_call 69); (refine Calls.mono hcall.out ?_); (rintro e w2 ⟨rfl, k2⟩)))
        exact check_dies rfl hno.out (kp1.out.trans k2) (c11.out.kp k2)
    · obtain rfl : k = ns := by omega
      have hall : Aside (symsGood nt nd o.syms) := ⟨by have := hgood.out; rwa [List.take_of_length_le (by have := hns.out; omega)] at this⟩
      have d0 := c0.alloc (.cells #[.int .i64 0, .int .i64 (-1)] 134)
      have d1 := c1.alloc (.cells #[.int .i64 0, .int .i64 (-1)] 134)
      have dl := Blk.new wr #[.int .i64 0, .int .i64 (-1)] 134
      have kq := kp.alloc (.cells #[.int .i64 0, .int .i64 (-1)] 134)
      obtain ⟨-, o0, o1, o2, o3⟩ := c0.four
      have l0 := c0.lt
      have l1 := c1.lt
      clear hw hgood hlt hk b0 b1 c0 c1 hmm g3 g5
      replace kp := Aside.mk kp
      go_wp2_with fail
      generalize hLB : wr.heap.size = LB at *
      generalize wr.alloc (.cells #[.int .i64 0, .int .i64 (-1)] 134) = wo at *
      clear kp o0 o1 o2 o3
      replace hLB := Aside.mk hLB
      go_loopw [73] (fun i wr => ∃ j : Nat, j ≤ nr ∧ i = .int .i64 j ∧ Kp w wr ∧ Blk wr w.heap.size #[.slice A nt ct, .slice B nd cd, .slice C k cs, .slice D nr cr] 38 ∧ Blk wr (w.heap.size + 1) #[.int .i64 0] 29 ∧ Blk wr LB #[.int .i64 (prevP o.rels j).1, .int .i64 (prevP o.rels j).2] 134 ∧ Aside (relsGood o j)) (fun i _ => nr - (intOf i).toNat)
      case atStart => exact ⟨0, Nat.zero_le _, rfl, kq, d0, d1, dl, ⟨fun i r hi => absurd hi (by omega)⟩⟩
      case round =>
        obtain ⟨j, hj, rfl, kp, c0, c1, cl, hgood⟩ := hrel
        clear kq d0 d1 dl
        by_cases hlt : j < nr
        · obtain ⟨r, hr⟩ : ∃ r, Aside (o.rels[j]? = some r) := ⟨_, ⟨List.getElem?_eq_getElem (by have := hnr.out; omega)⟩⟩
          obtain ⟨g, off, hD, hg, hc⟩ := (h.out.rels.kp kp) (by intro e; have := hnr.out; rw [e] at this; simp at this; omega)
          obtain ⟨q0, q1, q2, q3, q4⟩ := hc j r hr.out
          have hw5 := Aside.mk (hwf.out.rel r (List.mem_of_getElem? hr.out))
          have hbad := Aside.mk (rel_no hr.out)
          have hpair : Aside (pairAt o.rels j = (r.sect, r.at_)) := ⟨by unfold pairAt; rw [hr.out]; rfl⟩
          have hgn : Aside (relLt (prevP o.rels j) (r.sect, r.at_) ∧ (0 ≤ r.sym ∧ r.sym < o.syms.length ∧ -2147483648 ≤ r.add ∧ r.add < 2147483648) ∧ relAt o.text o.data.length r → relsGood o (j + 1)) := ⟨fun hx i r' hi hr' => by
            by_cases e : i < j
            · exact hgood.out i r' e hr'
            · obtain rfl : i = j := by omega
              rw [hr.out] at hr'
              injection hr' with hr'
              subst hr'
              exact hx⟩
          have hra := Aside.mk (fun (W : World) (hW : Kp w W) (hx : relAt o.text nd r) => relC_ok (w := W) (ct := ct) (cd := cd) (cs := cs) (cr := cr) (h.out.kp hW) hwf.out r hx)
          have hrn := Aside.mk (fun (W : World) (hW : Kp w W) (hx : ¬relAt o.text nd r) => relC_no (w := W) (ct := ct) (cd := cd) (cs := cs) (cr := cr) (h.out.kp hW) hwf.out r hx)
          subst hD
          clear hc hr
          obtain ⟨rs, ra, rk, ry, rd⟩ := r
          simp only at q0 q1 q2 q3 q4 hbad hpair hgn hra hrn
          generalize hpp : prevP o.rels j = pp at *
          obtain ⟨p0, p1⟩ := pp
          replace hpp := Aside.mk hpp
          simp only at cl
          have bl := Aside.mk ((cl.alloc (.cells #[.int .i64 rs, .int .i64 ra, .int .i64 rk, .int .i64 ry, .int .i64 rd] 46)).alloc (.cells #[.int .i64 rs, .int .i64 ra] 134))
          have b0 := Aside.mk ((c0.alloc (.cells #[.int .i64 rs, .int .i64 ra, .int .i64 rk, .int .i64 ry, .int .i64 rd] 46)).alloc (.cells #[.int .i64 rs, .int .i64 ra] 134))
          have b1 := Aside.mk ((c1.alloc (.cells #[.int .i64 rs, .int .i64 ra, .int .i64 rk, .int .i64 ry, .int .i64 rd] 46)).alloc (.cells #[.int .i64 rs, .int .i64 ra] 134))
          have br := Aside.mk ((Blk.new wr #[.int .i64 rs, .int .i64 ra, .int .i64 rk, .int .i64 ry, .int .i64 rd] 46).alloc (.cells #[.int .i64 rs, .int .i64 ra] 134))
          have bn := Blk.new (wr.alloc (.cells #[.int .i64 rs, .int .i64 ra, .int .i64 rk, .int .i64 ry, .int .i64 rd] 46)) #[.int .i64 rs, .int .i64 ra] 134
          rw [World.size_alloc] at bn
          have kq := Aside.mk ((kp.alloc (.cells #[.int .i64 rs, .int .i64 ra, .int .i64 rk, .int .i64 ry, .int .i64 rd] 46)).alloc (.cells #[.int .i64 rs, .int .i64 ra] 134))
          have hLl := cl.lt
          have hk1 := kp.size
          replace cl := Aside.mk cl
          replace c0 := Aside.mk c0
          replace c1 := Aside.mk c1
          replace kp := Aside.mk kp
          replace bn := Aside.mk bn
          go_upto_region 16 with fail
          generalize (wr.alloc (.cells #[.int .i64 rs, .int .i64 ra, .int .i64 rk, .int .i64 ry, .int .i64 rd] 46)).alloc (.cells #[.int .i64 rs, .int .i64 ra] 134) = W at *
          have e0 : W.cell? ⟨LB, 0, none⟩ = some (.int .i64 p0) := bl.out.cell 0
          have e1 : W.cell? ⟨LB, 1, none⟩ = some (.int .i64 p1) := bl.out.cell 1
          have n0 : W.cell? ⟨wr.heap.size + 1, 0, none⟩ = some (.int .i64 rs) := bn.out.cell 0
          have n1 : W.cell? ⟨wr.heap.size + 1, 1, none⟩ = some (.int .i64 ra) := bn.out.cell 1
          clear q0 q1 q2 q3 q4
          by_cases hlt2 : ¬relLt (p0, p1) (rs, ra)
          · have hno : Aside (¬objOk o) := ⟨hbad.out (fun hx => hlt2 hx.1)⟩
            replace hlt2 := Aside.mk hlt2
            refine wp_throw 2 (.pointer (some ⟨w.heap.size + 1, 0, none⟩)) [{ target := .fn (.func 66) #[.pointer (some ⟨w.heap.size + 1, 0, none⟩)], args := #[] }] (fun c w' => c = thrownF ∧ w' = W.drew) ?thra ?_
            case thra => (rintro c ⟨tm, df⟩ w8 ht hd ⟨rfl, rfl⟩; dsimp only at ht hd; subst hd; go_simp; exact check_dies ht hno.out kq.out.drew (b1.out.kp (Kp.refl W).drew))
            refine wp_region_held_drew (S := fun w' => w'.cell? ⟨LB, 0, none⟩ = some (.int .i64 p0)) (by kernel_rfl) ?hS0a (fun hHeld => ?_)
            case hS0a => exact (show _ from e0)
            refine wpAnyH_takeL (i := 0) (v := ?v0a) rfl (by kernel_rfl) (by kernel_rfl) (by kernel_rfl) (fun _ _ _ h => tq_keep (by decide) h) (Or.inl ⟨by kernel_rfl, ?hy0a⟩) (by assumption) ?rest0a
            case hy0a => (intro w hSw; (try dsimp only at hSw); go_simp; (try with_reducible rfl))
            try simp only [Act.put, List.setIfInBounds_toArray, List.set_cons_zero, List.set_cons_succ]
            refine wpAnyH_takeL (i := 1) (v := ?v1a) rfl (by kernel_rfl) (by kernel_rfl) (by kernel_rfl) (fun _ _ _ h => tq_keep (by decide) h) (Or.inl ⟨by kernel_rfl, ?hy1a⟩) (by assumption) ?rest1a
            case hy1a => (intro w hSw; (try dsimp only at hSw); go_simp; (try with_reducible rfl))
            try simp only [Act.put, List.setIfInBounds_toArray, List.set_cons_zero, List.set_cons_succ]
            refine wpAnyH_ready (rs := [2]) (by kernel_rfl) (by simp) ?_
            refine AllReadyH.consL rfl (fun Kx hKx => ?_) AllReadyH.nil
            go_simp
            refine Calls.mono (Compare_calls p0 p1 rs ra e0 e1 n0 n1) ?_
            rintro e w8 ⟨cc, rfl, rfl, hcc⟩
            have hcn : decide (cc < 0) = false := decide_eq_false (fun hh => hlt2.out (hcc.1 hh))
            clear hcc
            refine hKx.out _ _ (show _ from e0) (fun hHeld => ?_)
            clear hKx
            try simp only [Act.put, List.setIfInBounds_toArray, List.set_cons_zero, List.set_cons_succ]
            refine wpAnyH_takeL (i := 3) (v := ?v3a) rfl (by kernel_rfl) (by kernel_rfl) (by kernel_rfl) (fun _ _ _ h => tq_keep (by decide) h) (Or.inl ⟨by kernel_rfl, ?hy3a⟩) (by assumption) ?rest3a
            case hy3a => (intro w hSw; (try dsimp only at hSw); go_simp; (try with_reducible rfl))
            try simp only [Act.put, List.setIfInBounds_toArray, List.set_cons_zero, List.set_cons_succ]
            refine wpAnyH_ready (rs := [4]) (by kernel_rfl) (by simp) ?_
            refine AllReadyH.consL rfl (fun Kx hKx => ?_) AllReadyH.nil
            go_simp
            refine Calls.mono (need_no _) ?_
            rintro e w8 ⟨rfl, rfl⟩
            exact ⟨⟨rfl, rfl⟩, rfl, rfl⟩
          · have hlt3 := Aside.mk (Classical.not_not.1 hlt2)
            clear hlt2
            have f0 := bl.out.frozen 0
            have f1 := bl.out.frozen 1
            refine wp_hide (fun Q0 hQ0 => ?_)
            refine wp_region_held_drew (S := fun w' => w'.cell? ⟨LB, 0, none⟩ = some (.int .i64 p0)) (by kernel_rfl) ?hS0b (fun hHeld => ?_)
            case hS0b => exact (show _ from e0)
            refine wpAnyH_takeL (i := 0) (v := ?v0b) rfl (by kernel_rfl) (by kernel_rfl) (by kernel_rfl) (fun _ _ _ h => h) (Or.inl ⟨by kernel_rfl, ?hy0b⟩) (by assumption) ?rest0b
            case hy0b => (intro w hSw; (try dsimp only at hSw); go_simp; (try with_reducible rfl))
            try simp only [Act.put, List.setIfInBounds_toArray, List.set_cons_zero, List.set_cons_succ]
            refine wpAnyH_takeL (i := 1) (v := ?v1b) rfl (by kernel_rfl) (by kernel_rfl) (by kernel_rfl) (fun _ _ _ h => h) (Or.inl ⟨by kernel_rfl, ?hy1b⟩) (by assumption) ?rest1b
            case hy1b => (intro w hSw; (try dsimp only at hSw); go_simp; (try with_reducible rfl))
            try simp only [Act.put, List.setIfInBounds_toArray, List.set_cons_zero, List.set_cons_succ]
            refine wpAnyH_ready (rs := [2]) (by kernel_rfl) (by simp) ?_
            refine AllReadyH.consL rfl (fun Kx hKx => ?_) AllReadyH.nil
            go_simp
            refine Calls.mono (Compare_calls p0 p1 rs ra e0 e1 n0 n1) ?_
            rintro e w8 ⟨cc, rfl, rfl, hcc⟩
            have hcn : decide (cc < 0) = true := decide_eq_true (hcc.2 hlt3.out)
            clear hcc
            refine hKx.out _ _ (show _ from e0) (fun hHeld => ?_)
            clear hKx
            try simp only [Act.put, List.setIfInBounds_toArray, List.set_cons_zero, List.set_cons_succ]
            refine wpAnyH_takeL (i := 3) (v := ?v3b) rfl (by kernel_rfl) (by kernel_rfl) (by kernel_rfl) (fun _ _ _ h => h) (Or.inl ⟨by kernel_rfl, ?hy3b⟩) (by assumption) ?rest3b
            case hy3b => (intro w hSw; (try dsimp only at hSw); go_simp; (try with_reducible rfl))
            try simp only [Act.put, List.setIfInBounds_toArray, List.set_cons_zero, List.set_cons_succ]
            refine wpAnyH_ready (rs := [4]) (by kernel_rfl) (by simp) ?_
            refine AllReadyH.consL rfl (fun Kx hKx => ?_) AllReadyH.nil
            go_simp
            refine Calls.mono (need_ok _) ?_
            rintro e w8 ⟨rfl, rfl⟩
            refine hKx.out _ _ (show _ from e0) (fun hHeld => ?_)
            clear hKx
            try simp only [Act.put, List.setIfInBounds_toArray, List.set_cons_zero, List.set_cons_succ]
            refine wpAnyH_done (by kernel_rfl) (hQ0.out _ _ ?_) _
            clear hHeld
            go_upto_region 18 with fail
            have hne0 : w.heap.size ≠ LB := by omega
            have hne1 : w.heap.size + 1 ≠ LB := by omega
            have hne2 : wr.heap.size ≠ LB := by omega
            have hle : w.heap.size ≤ LB := by omega
            have bl2 : Blk (((W.setCell ⟨LB, 0, none⟩ (.int .i64 rs)).setCell ⟨LB, 1, none⟩ (.int .i64 ra)).drew) LB #[.int .i64 rs, .int .i64 ra] 134 := ((bl.out.set (i := 0) (.int .i64 rs)).set (i := 1) (.int .i64 ra)).kp (Kp.refl _).drew
            have b02 : Blk (((W.setCell ⟨LB, 0, none⟩ (.int .i64 rs)).setCell ⟨LB, 1, none⟩ (.int .i64 ra)).drew) w.heap.size #[.slice A nt ct, .slice B nd cd, .slice C k cs, .slice (some ⟨g, off, none⟩) nr cr] 38 := ((b0.out.far hne0 _).far hne0 _).kp (Kp.refl _).drew
            have b12 : Blk (((W.setCell ⟨LB, 0, none⟩ (.int .i64 rs)).setCell ⟨LB, 1, none⟩ (.int .i64 ra)).drew) (w.heap.size + 1) #[.int .i64 0] 29 := ((b1.out.far hne1 _).far hne1 _).kp (Kp.refl _).drew
            have br2 : Blk (((W.setCell ⟨LB, 0, none⟩ (.int .i64 rs)).setCell ⟨LB, 1, none⟩ (.int .i64 ra)).drew) wr.heap.size #[.int .i64 rs, .int .i64 ra, .int .i64 rk, .int .i64 ry, .int .i64 rd] 46 := ((br.out.far hne2 _).far hne2 _).kp (Kp.refl _).drew
            have kq2 : Kp w (((W.setCell ⟨LB, 0, none⟩ (.int .i64 rs)).setCell ⟨LB, 1, none⟩ (.int .i64 ra)).drew) := ((kq.out.setCell (p := ⟨LB, 0, none⟩) hle _).setCell (p := ⟨LB, 1, none⟩) hle _).drew
            generalize ((W.setCell ⟨LB, 0, none⟩ (.int .i64 rs)).setCell ⟨LB, 1, none⟩ (.int .i64 ra)).drew = W2 at *
            clear e0 e1 n0 n1 f0 f1 hHeld
            obtain ⟨-, o0, o1, o2, o3⟩ := b02.four
            obtain ⟨-, r0, r1, r2, r3, r4, -⟩ := br2.five
            have l3 := br2.lt
            have l4 := b02.lt
            replace bl2 := Aside.mk bl2
            replace b02 := Aside.mk b02
            replace b12 := Aside.mk b12
            replace br2 := Aside.mk br2
            replace kq2 := Aside.mk kq2
            by_cases a1 : 0 ≤ ry
            · by_cases a2 : ry < (k : Int)
              · by_cases a3 : -2147483648 ≤ rd
                · by_cases a4 : rd < 2147483648
                  · have g4 : decide (rd < 2147483648) = true := decide_eq_true a4
                    by_cases hx : relAt o.text nd ⟨rs, ra, rk, ry, rd⟩
                    · have hcall := Aside.mk (hra.out _ kq2.out hx)
                      have hgd : Aside (relsGood o (j + 1)) := ⟨hgn.out ⟨hlt3.out, ⟨a1, by rw [hns.out]; exact a2, a3, a4⟩, by rw [hnd.out]; exact hx⟩⟩
                      replace hx := Aside.mk hx
                      go_wp2_with (first | ((go_at_call 67); (refine (need_ok _).mono ?_); (rintro e w9 ⟨rfl, rfl⟩)) | ((go_at_call 71); (refine Calls.mono hcall.out ?_); (rintro e w3 ⟨rfl, k3⟩)))
                      go_roundw
                      case rel =>
                        refine ⟨j + 1, by omega, by go_num, kq2.out.trans k3, b02.out.kp k3, b12.out.kp k3, ?_, hgd⟩
                        show Blk _ _ #[.int .i64 (pairAt o.rels j).1, .int .i64 (pairAt o.rels j).2] _
                        rw [hpair.out]
                        exact bl2.out.kp k3
                      case measure => simp [intOf]; omega
                    · have hcall := Aside.mk (hrn.out _ kq2.out hx)
                      have hno : Aside (¬objOk o) := ⟨hbad.out (fun h => hx (by rw [← hnd.out]; exact h.2.2))⟩
                      replace hx := Aside.mk hx
                      go_wp2_with (first | ((go_at_call 67); (refine (need_ok _).mono ?_); (rintro e w9 ⟨rfl, rfl⟩)) | ((go_at_call 71); (refine Calls.mono hcall.out ?_); (rintro e w3 ⟨rfl, k3⟩)))
                      exact check_dies rfl hno.out (kq2.out.trans k3) (b12.out.kp k3)
                  · have hno : Aside (¬objOk o) := ⟨hbad.out (fun h => a4 h.2.1.2.2.2)⟩
                    have g4 : decide (rd < 2147483648) = false := decide_eq_false a4
                    clear a4
                    go_wp2_with ((go_at_call 67); (refine (need_no _).mono ?_); (rintro e w9 ⟨rfl, rfl⟩))
                    exact check_dies rfl hno.out kq2.out b12.out
                · have hno : Aside (¬objOk o) := ⟨hbad.out (fun h => a3 h.2.1.2.2.1)⟩
                  go_wp2_with ((go_at_call 67); (refine (need_no _).mono ?_); (rintro e w9 ⟨rfl, rfl⟩))
                  exact check_dies rfl hno.out kq2.out b12.out
              · have hno : Aside (¬objOk o) := ⟨hbad.out (fun h => a2 (by have := h.2.1.2.1; rwa [hns.out] at this))⟩
                go_wp2_with ((go_at_call 67); (refine (need_no _).mono ?_); (rintro e w9 ⟨rfl, rfl⟩))
                exact check_dies rfl hno.out kq2.out b12.out
            · have hno : Aside (¬objOk o) := ⟨hbad.out (fun h => a1 h.2.1.1)⟩
              go_wp2_with ((go_at_call 67); (refine (need_no _).mono ?_); (rintro e w9 ⟨rfl, rfl⟩))
              exact check_dies rfl hno.out kq2.out b12.out
        · obtain rfl : j = nr := by omega
          have hok := Aside.mk (all_ok hsz2.out (by rw [hnt.out, hnd.out]; exact hall.out) (by rw [hnr.out]; exact hgood.out))
          have ce : wr.cell? ⟨w.heap.size + 1, 0, none⟩ = some (.int .i64 0) := c1.cell 0
          have fe : wr.frozen? ⟨w.heap.size + 1, 0, none⟩ = false := c1.frozen 0
          go_wp2_with fail
          exact check_ends rfl hok.out (kp.setCell (p := ⟨w.heap.size + 1, 0, none⟩) (Nat.le_succ _) _) (c1.set (i := 0) _)
end Go.Proofs.Ytnbooljaodkedaa
namespace Go.Proofs.Ytnbooljaodkedaa
open Go.RowKit Go.Maps Go.Proofs.Ytnbooljaodkedaa.PC Go.Proofs.Ytnbooljaodkedaa.PW
set_option linter.unusedVariables false
set_option linter.unusedSimpArgs false
/-- A slice's length, capacity and address. -/
def SlOk (A : Option Addr) (n c : Nat) : Prop := n ≤ c ∧ (A = none → n = 0 ∧ c = 0)
/-- Objects in a row, readable. -/
def ObjsAt (w : World) (G : Option Addr) (os : List ObjV) : Prop := os ≠ [] → ∃ g off, G = some ⟨g, off, none⟩ ∧ g < w.heap.size ∧ ∀ i o, os[i]? = some o → ∃ A ct B cd C cs D cr,
  w.cell? ⟨g, off + i * 4, none⟩ = some (.slice A o.text.length ct) ∧ w.cell? ⟨g, off + i * 4 + 1, none⟩ = some (.slice B o.data.length cd) ∧ w.cell? ⟨g, off + i * 4 + 2, none⟩ = some (.slice C o.syms.length cs) ∧ w.cell? ⟨g, off + i * 4 + 3, none⟩ = some (.slice D o.rels.length cr) ∧
  ObjAt w A o.text.length B o.data.length C o.syms.length D o.rels.length o ∧ SlOk A o.text.length ct ∧ SlOk B o.data.length cd
theorem ObjsAt.kp {w w' : World} {G : Option Addr} {os : List ObjV} (h : ObjsAt w G os) (k : Kp w w') : ObjsAt w' G os := fun hne => by
  obtain ⟨g, off, e, hg, hc⟩ := h hne
  refine ⟨g, off, e, Nat.lt_of_lt_of_le hg k.size, fun i o ho => ?_⟩
  obtain ⟨A, ct, B, cd, C, cs, D, cr, q0, q1, q2, q3, ha, hsl⟩ := hc i o ho
  exact ⟨A, ct, B, cd, C, cs, D, cr, (k.cell (p := ⟨g, _, none⟩) hg).trans q0, (k.cell (p := ⟨g, _, none⟩) hg).trans q1, (k.cell (p := ⟨g, _, none⟩) hg).trans q2, (k.cell (p := ⟨g, _, none⟩) hg).trans q3, ha.kp k, hsl⟩
theorem form1_calls {w : World} {A : Option Addr} {nt ct : Nat} {B : Option Addr} {nd cd : Nat} {C : Option Addr} {ns cs : Nat} {D : Option Addr} {nr cr : Nat} {o : ObjV} (h : ObjAt w A nt B nd C ns D nr o) (hwf : o.wf) :
    Calls Try.prog 43 #[.agg #[.slice A nt ct, .slice B nd cd, .slice C ns cs, .slice D nr cr]] w fun e w' => ∃ b : Bool, e = .returned (.bool b) ∧ (b = true ↔ ¬objOk o) ∧ Kp w w' := by
  have hk := (Kp.refl w).alloc (.cells #[.slice A nt ct, .slice B nd cd, .slice C ns cs, .slice D nr cr] 38)
  have hc := Check_calls (ct := ct) (cd := cd) (cs := cs) (cr := cr) (h.kp hk) hwf
  by_cases hok : objOk o
  · have hc2 := Aside.mk (hc.mono (R' := fun e w' => e = .returned (.int .i64 0) ∧ Kp (w.alloc (.cells #[.slice A nt ct, .slice B nd cd, .slice C ns cs, .slice D nr cr] 38)) w') (fun e w' ⟨c, h1, h2, h3⟩ => ⟨by rcases h2 with ⟨rfl, _⟩ | ⟨_, h⟩; exact h1; exact absurd hok h, h3⟩))
    replace hok := Aside.mk hok
    replace h := Aside.mk h
    replace hk := Aside.mk hk
    clear hc
    go_enter Try.func43, Try.ntmps43
    go_wp2_with ((go_at_call 44); (refine Calls.mono hc2.out ?_); (rintro e w1 ⟨rfl, k1⟩))
    go_ret
    exact ⟨false, rfl, ⟨fun h => by (cases h), fun h => absurd hok.out h⟩, hk.out.trans k1⟩
  · have hc2 := Aside.mk (hc.mono (R' := fun e w' => e = .returned (.int .i64 2) ∧ Kp (w.alloc (.cells #[.slice A nt ct, .slice B nd cd, .slice C ns cs, .slice D nr cr] 38)) w') (fun e w' ⟨c, h1, h2, h3⟩ => ⟨by rcases h2 with ⟨_, h⟩ | ⟨rfl, _⟩; exact absurd h hok; exact h1, h3⟩))
    replace hok := Aside.mk hok
    replace h := Aside.mk h
    replace hk := Aside.mk hk
    clear hc
    go_enter Try.func43, Try.ntmps43
    go_wp2_with ((go_at_call 44); (refine Calls.mono hc2.out ?_); (rintro e w1 ⟨rfl, k1⟩))
    go_ret
    exact ⟨true, rfl, ⟨fun _ => hok.out, fun _ => rfl⟩, hk.out.trans k1⟩
set_option maxRecDepth 100000 in
set_option maxHeartbeats 2000000 in
theorem IndexObj_calls {w : World} {G : Option Addr} {n c : Nat} {os : List ObjV} (h : ObjsAt w G os) (hwf : ∀ o ∈ os, o.wf) (hn : os.length = n) (hl : n ≤ 100000) :
    Calls Try.prog 42 #[.slice G n c, .func (.func 43) #[] #[]] w fun e w' => ∃ r : Int, e = .returned (.int .i64 r) ∧ (0 ≤ r ↔ ¬∀ o ∈ os, objOk o) ∧ Kp w w' := by
  replace hos := Aside.mk h
  replace hwf := Aside.mk hwf
  replace hn := Aside.mk hn
  clear h
  go_enter Try.func42, Try.ntmps42
  go_wp2
  go_loopw [8] (fun i wr => ∃ k : Nat, k ≤ n ∧ i = .int .i64 k ∧ Kp w wr ∧ Aside (∀ i o, i < k → os[i]? = some o → objOk o)) (fun i _ => n - (intOf i).toNat)
  case atStart => exact ⟨0, Nat.zero_le _, rfl, Kp.refl _, ⟨fun i o hi => absurd hi (by omega)⟩⟩
  case round =>
    obtain ⟨k, hk, rfl, kp, hall⟩ := hrel
    by_cases hlt : k < n
    · obtain ⟨o, ho⟩ : ∃ o, Aside (os[k]? = some o) := ⟨_, ⟨List.getElem?_eq_getElem (by have := hn.out; omega)⟩⟩
      obtain ⟨g, off, hG, hg, hc⟩ := (hos.out.kp kp) (by intro e; have := hn.out; rw [e] at this; simp at this; omega)
      obtain ⟨A, ct, B, cd, C, cs, D, cr, q0, q1, q2, q3, hat, -⟩ := hc k o ho.out
      have hmem := Aside.mk (List.mem_of_getElem? ho.out)
      have hcall := Aside.mk (form1_calls (ct := ct) (cd := cd) (cs := cs) (cr := cr) hat (hwf.out o hmem.out))
      have hnext : Aside (objOk o → ∀ i o', i < k + 1 → os[i]? = some o' → objOk o') := ⟨fun hok i o' hi ho' => by
        by_cases e : i < k
        · exact hall.out i o' e ho'
        · obtain rfl : i = k := by omega
          rw [ho.out] at ho'
          injection ho' with ho'
          subst ho'
          exact hok⟩
      subst hG
      clear hc hat
      generalize o.text.length = nt at *
      generalize o.data.length = nd at *
      generalize o.syms.length = ns at *
      generalize o.rels.length = nr at *
      replace kp := Aside.mk kp
      by_cases hok : objOk o
      · have hcall2 : Aside (Calls Try.prog 43 #[.agg #[.slice A nt ct, .slice B nd cd, .slice C ns cs, .slice D nr cr]] wr fun e w' => e = .returned (.bool false) ∧ Kp wr w') := ⟨hcall.out.mono (fun e w' ⟨b, h1, h2, h3⟩ => ⟨by rw [h1]; cases b; rfl; exact absurd hok (h2.1 rfl), h3⟩)⟩
        replace hok := Aside.mk hok
        go_wp2_with ((go_at_call 43); (refine Calls.mono hcall2.out ?_); (rintro e w1 ⟨rfl, k1⟩))
        go_roundw
        case rel => exact ⟨k + 1, by omega, by go_num, kp.out.trans k1, ⟨hnext.out hok.out⟩⟩
        case measure => simp [intOf]; omega
      · have hcall2 : Aside (Calls Try.prog 43 #[.agg #[.slice A nt ct, .slice B nd cd, .slice C ns cs, .slice D nr cr]] wr fun e w' => e = .returned (.bool true) ∧ Kp wr w') := ⟨hcall.out.mono (fun e w' ⟨b, h1, h2, h3⟩ => ⟨by rw [h1, h2.2 hok], h3⟩)⟩
        replace hok := Aside.mk hok
        go_wp2_with ((go_at_call 43); (refine Calls.mono hcall2.out ?_); (rintro e w1 ⟨rfl, k1⟩))
        go_ret
        exact ⟨k, rfl, ⟨fun _ hh => hok.out (hh o hmem.out), fun _ => by omega⟩, kp.out.trans k1⟩
    · obtain rfl : k = n := by omega
      go_wp2
      go_ret
      refine ⟨-1, rfl, ⟨fun hh => absurd hh (by decide), fun hh => absurd (fun o ho => ?_) hh⟩, kp⟩
      obtain ⟨i, hi, rfl⟩ := List.mem_iff_getElem.1 ho
      exact hall.out i _ (by have := hn.out; omega) (List.getElem?_eq_getElem hi)
theorem form_calls {w : World} {G : Option Addr} {n c : Nat} {os : List ObjV} (h : ObjsAt w G os) (hwf : ∀ o ∈ os, o.wf) (hn : os.length = n) (hl : n ≤ 100000) :
    Calls Try.prog 28 #[.slice G n c] w fun e w' => ∃ r : Int, e = .returned (.int .i64 r) ∧ (0 ≤ r ↔ ¬∀ o ∈ os, objOk o) ∧ Kp w w' := by
  have hc := Aside.mk (IndexObj_calls (c := c) h hwf hn hl)
  replace h := Aside.mk h
  replace hwf := Aside.mk hwf
  replace hn := Aside.mk hn
  go_enter Try.func28, Try.ntmps28
  go_wp2_with ((go_at_call 42); (refine Calls.mono hc.out ?_); (rintro e w1 ⟨r, rfl, hr, k1⟩); (replace hr := Aside.mk hr))
  go_ret
  exact ⟨r, rfl, hr.out, k1⟩
end Go.Proofs.Ytnbooljaodkedaa
namespace Go.Proofs.Ytnbooljaodkedaa
open Go.RowKit Go.Maps Go.Proofs.Ytnbooljaodkedaa.PC Go.Proofs.Ytnbooljaodkedaa.PW
set_option linter.unusedVariables false
set_option linter.unusedSimpArgs false
/-- An element of a map, as it stands. -/
def RT : Value → Option (DataW Value × List MemPlace) := fun v => some (.held v, [])
def tgtC (t : Nat × Nat) : Value := .agg #[.int .i64 t.1, .int .i64 t.2]
def defD (l : List (ByteArray × Nat × Nat)) : DataW Value := l.foldl (fun D d => D.put (kS d.1) (.held (tgtC d.2))) (.map [])
theorem defD_snoc (l : List (ByteArray × Nat × Nat)) (d : ByteArray × Nat × Nat) : defD (l ++ [d]) = (defD l).put (kS d.1) (.held (tgtC d.2)) := by simp [defD, List.foldl_append]
theorem defD_map (l : List (ByteArray × Nat × Nat)) : IsMap (defD l) := by
  have : ∀ (l : List (ByteArray × Nat × Nat)) (D : DataW Value), IsMap D → IsMap (l.foldl (fun D d => D.put (kS d.1) (.held (tgtC d.2))) D) := by
    intro l
    induction l with
    | nil => exact fun D h => h
    | cons s l ih => exact fun D h => ih _ (h.put _ _)
  exact this l _ isMap_empty
theorem isKS (n : ByteArray) : WideAt.IsKeyLit (kS n) := by simp [kS, WideAt.IsKeyLit]
/-- The last that has a name. -/
def lastV (l : List (ByteArray × Nat × Nat)) (n : ByteArray) : Option (Nat × Nat) := lookV l.reverse n
theorem defD_at (n : ByteArray) (z : DataW Value) : ∀ m : List (ByteArray × Nat × Nat), (defD m.reverse).atKey (kS n) z = (match lookV m n with | some t => .held (tgtC t) | none => z) := by
  intro m
  induction m with
  | nil => simp [defD, DataW.atKey, lookV]
  | cons d m ih =>
    rw [List.reverse_cons, defD_snoc]
    by_cases e : d.1 = n
    · subst e
      rw [atKey_put_same (defD_map _) (isKS _)]
      simp [lookV]
    · rw [atKey_put_other (fun h => e (kS_inj h).symm), ih]
      simp [lookV, List.find?_cons, e]
theorem defD_has (n : ByteArray) : ∀ m : List (ByteArray × Nat × Nat), Maps.has (defD m.reverse) (kS n) = (lookV m n).isSome := by
  intro m
  induction m with
  | nil => simp [defD, Maps.has, lookV]
  | cons d m ih =>
    rw [List.reverse_cons, defD_snoc]
    by_cases e : d.1 = n
    · subst e
      rw [has_put_same (defD_map _) (isKS _)]
      simp [lookV]
    · rw [has_put_other (fun h => e (kS_inj h).symm), ih]
      simp [lookV, List.find?_cons, e]
theorem lookV_rev {l : List (ByteArray × Nat × Nat)} (h : once l) (n : ByteArray) : lookV l.reverse n = lookV l n := by
  induction l with
  | nil => rfl
  | cons d l ih =>
    unfold once at h
    rw [List.pairwise_cons] at h
    have ih := ih h.2
    unfold lookV at ih ⊢
    rw [List.reverse_cons, List.find?_append]
    by_cases e : d.1 = n
    · subst e
      have hno : l.reverse.find? (fun x => decide (x.1 = d.1)) = none := by
        rw [List.find?_eq_none]
        intro x hx
        have := h.1 x (List.mem_reverse.1 hx)
        simp
        exact fun e => this e.symm
      rw [hno]
      simp
    · have e1 : List.find? (fun d => decide (d.1 = n)) (d :: l) = List.find? (fun d => decide (d.1 = n)) l := List.find?_cons_of_neg (by simpa using e)
      have e2 : List.find? (fun d => decide (d.1 = n)) [d] = none := by simp [e]
      rw [e1, e2, Option.or_none]
      exact ih
theorem def_at {l : List (ByteArray × Nat × Nat)} (h : once l) (n : ByteArray) (z : DataW Value) : (defD l).atKey (kS n) z = (match lookV l n with | some t => .held (tgtC t) | none => z) := by
  have := defD_at n z l.reverse
  rw [List.reverse_reverse, lookV_rev h] at this
  exact this
theorem def_has {l : List (ByteArray × Nat × Nat)} (h : once l) (n : ByteArray) : Maps.has (defD l) (kS n) = (lookV l n).isSome := by
  have := defD_has n l.reverse
  rw [List.reverse_reverse, lookV_rev h] at this
  exact this
theorem defsO_cons (i k : Nat) (s : SymV) (ss : List SymV) : defsO i k (s :: ss) = if s.defs then (s.name, i, k) :: defsO i (k + 1) ss else defsO i (k + 1) ss := rfl
theorem defsO_snoc (i : Nat) : ∀ (l : List SymV) (k : Nat) (s : SymV), defsO i k (l ++ [s]) = defsO i k l ++ (if s.defs then [(s.name, i, k + l.length)] else [])
  | [], k, s => by simp [defsO]
  | t :: l, k, s => by
    rw [List.cons_append, defsO_cons, defsO_cons, defsO_snoc i l (k + 1) s]
    have e : k + 1 + l.length = k + (t :: l).length := by simp; omega
    rw [e]
    split <;> simp
theorem defsO_app (i : Nat) : ∀ (l m : List SymV) (k : Nat), defsO i k (l ++ m) = defsO i k l ++ defsO i (k + l.length) m
  | [], m, k => by simp [defsO]
  | t :: l, m, k => by
    rw [List.cons_append, defsO_cons, defsO_cons, defsO_app i l m (k + 1)]
    have e : k + 1 + l.length = k + (t :: l).length := by simp; omega
    rw [e]
    split <;> simp
theorem defsA_app : ∀ (l m : List ObjV) (i : Nat), defsA i (l ++ m) = defsA i l ++ defsA (i + l.length) m
  | [], m, i => by simp [defsA]
  | t :: l, m, i => by
    rw [List.cons_append]
    show defsO i 0 t.syms ++ defsA (i + 1) (l ++ m) = defsO i 0 t.syms ++ defsA (i + 1) l ++ defsA (i + (t :: l).length) m
    rw [defsA_app l m (i + 1), List.append_assoc]
    have e : i + 1 + l.length = i + (t :: l).length := by simp; omega
    rw [e]
/-- What is defined so far. -/
def defsK (os : List ObjV) (k : Nat) (l : List SymV) : List (ByteArray × Nat × Nat) := defsA 0 (os.take k) ++ defsO k 0 l
theorem defsK_end {os : List ObjV} {k : Nat} {o : ObjV} (h : os[k]? = some o) : defsK os k o.syms = defsK os (k + 1) [] := by
  have hk : k < os.length := (List.getElem?_eq_some_iff.1 h).1
  unfold defsK
  rw [take_snoc' h, defsA_app, List.length_take, Nat.min_eq_left (by omega), Nat.zero_add]
  simp [defsA, defsO]
theorem defsK_pre {os : List ObjV} {k j : Nat} {o : ObjV} {s : SymV} (h : os[k]? = some o) (hs : o.syms[j]? = some s) (hd : s.defs = true) : ∃ r, defsA 0 os = (defsK os k (o.syms.take j) ++ [(s.name, k, j)]) ++ r := by
  have hk : k < os.length := (List.getElem?_eq_some_iff.1 h).1
  have hj : j < o.syms.length := (List.getElem?_eq_some_iff.1 hs).1
  refine ⟨defsO k (j + 1) (o.syms.drop (j + 1)) ++ defsA (k + 1) (os.drop (k + 1)), ?_⟩
  have e1 : os = os.take k ++ (o :: os.drop (k + 1)) := by
    have := List.take_append_drop k os
    rw [List.drop_eq_getElem_cons hk] at this
    have e := (List.getElem?_eq_some_iff.1 h).2
    rw [e] at this
    exact this.symm
  have e2 : o.syms = o.syms.take j ++ (s :: o.syms.drop (j + 1)) := by
    have := List.take_append_drop j o.syms
    rw [List.drop_eq_getElem_cons hj] at this
    have e := (List.getElem?_eq_some_iff.1 hs).2
    rw [e] at this
    exact this.symm
  have e3 : defsO k 0 o.syms = defsO k 0 (o.syms.take j) ++ (s.name, k, j) :: defsO k (j + 1) (o.syms.drop (j + 1)) := by
    conv => lhs; rw [e2]
    rw [defsO_app, List.length_take, Nat.min_eq_left (by omega), Nat.zero_add]
    rw [defsO_cons, if_pos hd]
  conv => lhs; rw [e1]
  rw [defsA_app, List.length_take, Nat.min_eq_left (by omega), Nat.zero_add]
  show defsA 0 (os.take k) ++ (defsO k 0 o.syms ++ defsA (k + 1) (os.drop (k + 1))) = _
  rw [e3]
  simp [defsK]
theorem once_snoc {l : List (ByteArray × Nat × Nat)} {d : ByteArray × Nat × Nat} (h : once l) : once (l ++ [d]) ↔ lookV l d.1 = none := by
  unfold once lookV
  rw [List.pairwise_append]
  constructor
  · rintro ⟨_, _, h3⟩
    rw [Option.map_eq_none_iff, List.find?_eq_none]
    intro x hx
    simpa using h3 x hx d (by simp)
  · intro h2
    rw [Option.map_eq_none_iff, List.find?_eq_none] at h2
    refine ⟨h, List.pairwise_singleton _ _, fun a ha b hb => ?_⟩
    obtain rfl := List.mem_singleton.1 hb
    simpa using h2 a ha
theorem once_pre {a b : List (ByteArray × Nat × Nat)} (h : once (a ++ b)) : once a := (List.pairwise_append.1 h).1
theorem results_tct {fn : Func} {p q u : Tmp} {ty : TypeId} {P : Program} (h : fn.results = #[.tmp q, .cell p ty, .tmp u]) (tmps : Array Value) (w : World) (g : Nat) (t : TypeId) (cs : Array Value) (fr : Nat × Nat) {fs : Array Field}
    (hp : tmps.getD p undef = .pointer (some ⟨g, 0, none⟩)) (hg : w.heap[g]? = some (.cells cs t fr))
    (hu : P.underlying ty = some (.struct fs)) (hi : (P.info? ty).map (·.size) = some cs.size) :
    (results fn tmps).run P w = .ok (.tuple #[tmps.getD q undef, .agg cs, tmps.getD u undef]) w := by
  have hp' : tmps[p]?.getD undef = .pointer (some ⟨g, 0, none⟩) := by simpa using hp
  simp only [results, h]
  simp [hp', asAddr, run_loadVar_row w g t ty cs fr _ hg hu rfl hi, Sem.run_bind, Result.andThen]
end Go.Proofs.Ytnbooljaodkedaa
namespace Go.Proofs.Ytnbooljaodkedaa
open Go.RowKit Go.Maps Go.Proofs.Ytnbooljaodkedaa.PC Go.Proofs.Ytnbooljaodkedaa.PW
set_option linter.unusedVariables false
set_option linter.unusedSimpArgs false
theorem defsO_len (i : Nat) : ∀ (l : List SymV) (k : Nat), (defsO i k l).length ≤ l.length
  | [], k => by simp [defsO]
  | s :: l, k => by
    have := defsO_len i l (k + 1)
    rw [defsO_cons]
    split <;> simp <;> omega
theorem defsA_len : ∀ (l : List ObjV) (i : Nat), (∀ o ∈ l, o.syms.length ≤ 600) → (defsA i l).length ≤ 600 * l.length
  | [], i, _ => by simp [defsA]
  | o :: l, i, h => by
    have h1 := defsA_len l (i + 1) (fun x hx => h x (List.mem_cons_of_mem _ hx))
    have h2 := defsO_len i o.syms 0
    have h3 := h o (List.mem_cons_self ..)
    show (defsO i 0 o.syms ++ defsA (i + 1) l).length ≤ _
    rw [List.length_append, List.length_cons]
    omega
theorem defsK_len {os : List ObjV} {k j : Nat} {o : ObjV} (hl : ∀ o ∈ os, o.syms.length ≤ 600) (h : os.length ≤ 1000) (ho : o ∈ os) : (defsK os k (o.syms.take j)).length ≤ 600600 := by
  have h1 := defsA_len (os.take k) 0 (fun x hx => hl x (List.mem_of_mem_take hx))
  have h2 := defsO_len k (o.syms.take j) 0
  have h3 := hl o ho
  have h4 : (os.take k).length ≤ os.length := List.length_take_le' ..
  have h5 : (o.syms.take j).length ≤ o.syms.length := List.length_take_le' ..
  unfold defsK
  rw [List.length_append]
  omega
theorem SymsAt.grown {w w' : World} {C : Option Addr} {l : List SymV} {T : TypeId} {R : Value → Option (DataW Value × List MemPlace)} {b n : Nat} {D : DataW Value} (h : SymsAt w C l) (hm : w.ownsMap Try.prog T R b n D) (hg : w.grownBy w' (some b)) : SymsAt w' C l := fun hne => by
  obtain ⟨g, off, e, hl, hc⟩ := h hne
  obtain ⟨es, clock, hb, -⟩ := hm
  have hgb : some g ≠ some b := by
    intro e2
    injection e2 with e2
    subst e2
    cases l with
    | nil => exact hne rfl
    | cons s l =>
      have := (hc 0 s rfl).1
      simp [World.cell?, hb] at this
  refine ⟨g, off, e, Nat.lt_of_lt_of_le hl hg.size, fun i s hs => ?_⟩
  obtain ⟨q0, q1, q2, q3, q4⟩ := hc i s hs
  exact ⟨(hg.cell_far ⟨g, _, none⟩ hl hgb).trans q0, (hg.cell_far ⟨g, _, none⟩ hl hgb).trans q1, (hg.cell_far ⟨g, _, none⟩ hl hgb).trans q2, (hg.cell_far ⟨g, _, none⟩ hl hgb).trans q3, (hg.cell_far ⟨g, _, none⟩ hl hgb).trans q4⟩
theorem zeroT (w : World) : (zeroValue 63).run Try.prog w = .ok (.agg #[.int .i64 0, .int .i64 0]) w := by kernel_rfl
theorem ownT_kp {w w' : World} {T : TypeId} {R : Value → Option (DataW Value × List MemPlace)} {b n : Nat} {D : DataW Value} (h : w.ownsMap Try.prog T R b n D) (k : Kp w w') : w'.ownsMap Try.prog T R b n D := by
  have hl := h.lt
  obtain ⟨es, clock, hb, r⟩ := h
  exact ⟨es, clock, (k.block hl).trans hb, r⟩
set_option maxRecDepth 100000 in
theorem lookT {w : World} {B n : Nat} {l : List (ByteArray × Nat × Nat)} (h : w.ownsMap Try.prog 9 RT B n (defD l)) (h1 : once l) {nm : ByteArray} (hs : nm.size ≤ 140737488355328) :
    (Instr.lookup 91 (.map (some B)) (.string nm) true).run Try.prog w = .ok (.tuple #[match lookV l nm with | some t => tgtC t | none => .agg #[.int .i64 0, .int .i64 0], .bool (lookV l nm).isSome]) w := by
  obtain ⟨v, ps, hrun, hv⟩ := h.look_ok lawS Try.underlying91 (zeroT w) rfl (keyS hs)
  rw [def_has h1] at hrun
  rw [def_at h1] at hv
  injection hv with hv
  injection hv with hv _
  cases hl : lookV l nm with
  | none =>
    rw [hl] at hv hrun
    injection hv with hv
    rw [hrun, hv]
  | some t =>
    rw [hl] at hv hrun
    injection hv with hv
    rw [hrun, hv]
/-- What 'defined' comes to. -/
def DefR (w : World) (os : List ObjV) (e : Ending) (w' : World) : Prop := Kp w w' ∧ ((once (defsA 0 os) ∧ ∃ B, e = .returned (.tuple #[.map (some B), .agg #[.int .i64 0, .int .i64 0], .bool false]) ∧ w'.ownsMap Try.prog 9 RT B (defsA 0 os).length (defD (defsA 0 os))) ∨
  (¬once (defsA 0 os) ∧ ∃ (v : Value) (a b : Int), e = .returned (.tuple #[v, .agg #[.int .i64 a, .int .i64 b], .bool true])))
set_option maxRecDepth 100000 in
set_option maxHeartbeats 8000000 in
theorem defined_calls {w : World} {G : Option Addr} {n c : Nat} {os : List ObjV} (h : ObjsAt w G os) (hwf : ∀ o ∈ os, o.wf) (hn : os.length = n) (hl : n ≤ 1000) (h600 : ∀ o ∈ os, o.syms.length ≤ 600) :
    Calls Try.prog 27 #[.slice G n c] w (DefR w os) := by
  have hmm := @run_makeMap Try.prog
  replace hos := Aside.mk h
  replace hwf := Aside.mk hwf
  replace hn := Aside.mk hn
  replace h600 := Aside.mk h600
  clear h
  have b3 := Aside.mk ((Blk.new w #[.int .i64 0, .int .i64 0] 63).alloc (.map #[] 0))
  go_enter Try.func27, Try.ntmps27
  go_wp2_with fail
  go_loopw [15] (fun i wr => ∃ k : Nat, k ≤ n ∧ i = .int .i64 k ∧ Kp w wr ∧ Blk wr w.heap.size #[.int .i64 0, .int .i64 0] 63 ∧ wr.ownsMap Try.prog 9 RT (w.heap.size + 1) (defsK os k []).length (defD (defsK os k [])) ∧ Aside (once (defsK os k []))) (fun i _ => n - (intOf i).toNat)
  case atStart =>
    refine ⟨0, Nat.zero_le _, rfl, by repeat (with_reducible first | exact Kp.refl _ | assumption | exact Dr.kp (by assumption) | refine Kp.drewN ?_ _ | refine Kp.drew ?_ | refine Kp.alloc ?_ _ | refine Kp.setCell ?_ (by first | exact Nat.le_refl _ | assumption | omega) _ | refine Kp.trans ?_ (by assumption) | refine Kp.trans ?_ (Dr.kp (by assumption))), b3.out, ?_, ⟨List.Pairwise.nil⟩⟩
    have := World.ownsMap_made (w.alloc (.cells #[.int .i64 0, .int .i64 0] 63)) Try.prog 9 RT
    rw [World.size_alloc] at this
    exact this
  case round =>
    obtain ⟨k, hk, rfl, kp, c3, hw, honce⟩ := hrel
    by_cases hlt : k < n
    · obtain ⟨o, ho⟩ : ∃ o, Aside (os[k]? = some o) := ⟨_, ⟨List.getElem?_eq_getElem (by have := hn.out; omega)⟩⟩
      obtain ⟨g, off, hG, hg, hc⟩ := (hos.out.kp kp) (by intro e; have := hn.out; rw [e] at this; simp at this; omega)
      obtain ⟨A, ct, B, cd, C, cs, D, cr, q0, q1, q2, q3, hat, -⟩ := hc k o ho.out
      have hmem := Aside.mk (List.mem_of_getElem? ho.out)
      have hwo := Aside.mk (hwf.out o hmem.out)
      obtain ⟨ns, hns⟩ : ∃ ns, Aside (o.syms.length = ns) := ⟨_, ⟨rfl⟩⟩
      have hns6 : ns ≤ 600 := by have := h600.out o hmem.out; have := hns.out; omega
      have hsy := Aside.mk (hat.syms.kp ((Kp.refl wr).alloc (.cells #[.slice A o.text.length ct, .slice B o.data.length cd, .slice C o.syms.length cs, .slice D o.rels.length cr] 38)))
      rw [hns.out] at q2 hsy
      subst hG
      clear hc hat
      generalize o.text.length = nt at *
      generalize o.data.length = nd at *
      generalize o.rels.length = nr at *
      have kp1 := kp.alloc (.cells #[.slice A nt ct, .slice B nd cd, .slice C ns cs, .slice D nr cr] 38)
      have c31 := c3.alloc (.cells #[.slice A nt ct, .slice B nd cd, .slice C ns cs, .slice D nr cr] 38)
      have hw1 := hw.alloc (.cells #[.slice A nt ct, .slice B nd cd, .slice C ns cs, .slice D nr cr] 38)
      replace hw := Aside.mk hw
      replace kp := Aside.mk kp
      replace c3 := Aside.mk c3
      go_wp2_with fail
      generalize wr.alloc (.cells #[.slice A nt ct, .slice B nd cd, .slice C ns cs, .slice D nr cr] 38) = wo at *
      clear q0 q1 q2 q3 hw kp c3
      go_loopw [23] (fun i wr => ∃ j : Nat, j ≤ ns ∧ i = .int .i64 j ∧ SymsAt wr C o.syms ∧ Blk wr w.heap.size #[.int .i64 0, .int .i64 0] 63 ∧ wr.ownsMap Try.prog 9 RT (w.heap.size + 1) (defsK os k (o.syms.take j)).length (defD (defsK os k (o.syms.take j))) ∧ Kp w wr ∧ Aside (once (defsK os k (o.syms.take j)))) (fun i _ => ns - (intOf i).toNat)
      case atStart => exact ⟨0, Nat.zero_le _, rfl, hsy.out, c31, hw1, kp1, honce⟩
      case round =>
        obtain ⟨j, hj, rfl, ko, c3, hw, kp, honce2⟩ := hrel
        clear kp1 c31 hw1 hsy
        by_cases hlt2 : j < ns
        · obtain ⟨s, hs⟩ : ∃ s, Aside (o.syms[j]? = some s) := ⟨_, ⟨List.getElem?_eq_getElem (by have := hns.out; omega)⟩⟩
          obtain ⟨g', off', hC, hg', hc⟩ := ko (by intro e; have := hns.out; rw [e] at this; simp at this; omega)
          obtain ⟨q0, q1, q2, q3, q4⟩ := hc j s hs.out
          have hnm : Aside (s.name.size ≤ 140737488355328) := ⟨hwo.out.name s (List.mem_of_getElem? hs.out)⟩
          have hsn : Aside (defsK os k (o.syms.take (j + 1)) = defsK os k (o.syms.take j) ++ (if s.defs then [(s.name, k, j)] else [])) := ⟨by
            unfold defsK
            rw [take_snoc' hs.out, defsO_snoc, List.append_assoc, List.length_take, Nat.min_eq_left (by have := hns.out; omega), Nat.zero_add]⟩
          have hpre := Aside.mk (fun hd => defsK_pre ho.out hs.out hd)
          have hlen := Aside.mk (defsK_len (k := k) (j := j) h600.out (by have := hn.out; omega) hmem.out)
          subst hC
          replace ko := Aside.mk ko
          clear hc hs
          obtain ⟨nm, sect, val, frame, glob⟩ := s
          simp only at q0 q1 q2 q3 q4 hnm hsn hpre
          have bs := Aside.mk (Blk.new wr #[.string nm, .int .i64 sect, .int .i64 val, .int .i64 frame, .bool glob] 43)
          have hws := Aside.mk (hw.alloc (.cells #[.string nm, .int .i64 sect, .int .i64 val, .int .i64 frame, .bool glob] 43))
          have hlw := hw.lt
          replace hw := Aside.mk hw
          by_cases hd : glob = true ∧ sect ≠ 0
          · obtain ⟨rfl, hsect⟩ := hd
            have gs : (sect == 0) = false := beq_eq_false_iff_ne.2 hsect
            have hdef : Aside ((⟨nm, sect, val, frame, true⟩ : SymV).defs = true) := ⟨by simp [SymV.defs, hsect]⟩
            replace hsect := Aside.mk hsect
            have hrun := lookT hws.out honce2.out hnm.out
            cases hl : lookV (defsK os k (o.syms.take j)) nm with
            | none =>
              rw [hl] at hrun
              dsimp only [Option.isSome] at hrun
              have hon := Aside.mk ((once_snoc (d := (nm, k, j)) honce2.out).2 hl)
              replace hl := Aside.mk hl
              have hmx : Aside ((defsK os k (o.syms.take j)).length < maxLen) := ⟨by have := hlen.out; unfold maxLen; omega⟩
              go_wp2_with ((at_mapUpdate); (refine wpList_mapUpdate_own _ rfl _ _ _ 91 rfl 9 63 lawS Try.underlying91 RT (w.heap.size + 1) _ _ rfl (hws.out.alloc _) hmx.out _ _ _ rfl rfl (keyS hnm.out) _ [] rfl ?_); (intro w1 hw1 hg1))
              have ko1 := Aside.mk ((ko.out.kp (((Kp.refl _).alloc _).alloc _)).grown (hws.out.alloc _) hg1)
              have c31 := Aside.mk (grown_blk ((c3.alloc _).alloc _) hg1 (by intro e; injection e with e; omega))
              have kp1 : Aside (Kp w w1) := ⟨((kp.alloc _).alloc _).grown hg1 (fun i e => by cases e; omega)⟩
              go_roundw
              case rel =>
                refine ⟨j + 1, by omega, by go_num, ko1.out, c31.out, ?_, kp1.out, ⟨by rw [hsn.out, if_pos hdef.out]; exact hon.out⟩⟩
                rw [hsn.out, if_pos hdef.out, defD_snoc, List.length_append]
                exact hw1
              case measure => simp [intOf]; omega
            | some t =>
              rw [hl] at hrun
              dsimp only [Option.isSome] at hrun
              have hnot : Aside (¬once (defsA 0 os)) := ⟨fun ha => by
                obtain ⟨r, hr⟩ := hpre.out hdef.out
                rw [hr] at ha
                have := (once_snoc (d := (nm, k, j)) honce2.out).1 (once_pre ha)
                rw [hl] at this
                cases this⟩
              replace hl := Aside.mk hl
              have e0 : wr.cell? ⟨w.heap.size, 0, none⟩ = some (.int .i64 0) := c3.cell 0
              have e1 : wr.cell? ⟨w.heap.size, 1, none⟩ = some (.int .i64 0) := c3.cell 1
              have f0 := c3.frozen 0
              have f1 := c3.frozen 1
              have l3 := c3.lt
              obtain ⟨ti, tk⟩ := t
              unfold tgtC at hrun
              go_wp2_with fail
              refine bodyPost_ret (results_tct rfl _ _ w.heap.size _ _ _ rfl (((Blk.set (Blk.set c3 _) _).alloc _).alloc _) Try.underlying63 (by kernel_rfl)) rfl ?_
              exact ⟨(((kp.setCell (p := ⟨w.heap.size, 0, none⟩) (Nat.le_refl _) _).setCell (p := ⟨w.heap.size, 1, none⟩) (Nat.le_refl _) _).alloc _).alloc _, Or.inr ⟨hnot.out, _, _, _, rfl⟩⟩
          · have hdef : Aside ((⟨nm, sect, val, frame, glob⟩ : SymV).defs = false) := ⟨by simp [SymV.defs]; intro h; exact Decidable.not_not.1 (fun e => hd ⟨h, e⟩)⟩
            have hrel : Aside (defsK os k (o.syms.take (j + 1)) = defsK os k (o.syms.take j)) := ⟨by rw [hsn.out, hdef.out]; simp⟩
            cases glob with
            | false =>
              clear hd
              go_wp2_with fail
              go_roundw
              case rel => exact ⟨j + 1, by omega, by go_num, ko.out.kp ((Kp.refl _).alloc _), c3.alloc _, by rw [hrel.out]; exact hws.out, kp.alloc _, ⟨by rw [hrel.out]; exact honce2.out⟩⟩
              case measure => simp [intOf]; omega
            | true =>
              obtain rfl : sect = 0 := Decidable.not_not.1 (fun e => hd ⟨rfl, e⟩)
              clear hd
              go_wp2_with fail
              go_roundw
              case rel => exact ⟨j + 1, by omega, by go_num, ko.out.kp ((Kp.refl _).alloc _), c3.alloc _, by rw [hrel.out]; exact hws.out, kp.alloc _, ⟨by rw [hrel.out]; exact honce2.out⟩⟩
              case measure => simp [intOf]; omega
        · obtain rfl : j = ns := by omega
          have he : Aside (defsK os k (o.syms.take j) = defsK os (k + 1) []) := ⟨by rw [List.take_of_length_le (by have := hns.out; omega)]; exact defsK_end ho.out⟩
          go_wp2_with fail
          go_roundw
          case rel => exact ⟨k + 1, by omega, by go_num, kp, c3, by rw [← he.out]; exact hw, ⟨by rw [← he.out]; exact honce2.out⟩⟩
          case measure => simp [intOf]; omega
    · obtain rfl : k = n := by omega
      have he : Aside (defsK os k [] = defsA 0 os) := ⟨by unfold defsK; rw [List.take_of_length_le (by have := hn.out; omega)]; simp [defsO]⟩
      have e0 : wr.cell? ⟨w.heap.size, 0, none⟩ = some (.int .i64 0) := c3.cell 0
      have e1 : wr.cell? ⟨w.heap.size, 1, none⟩ = some (.int .i64 0) := c3.cell 1
      have f0 := c3.frozen 0
      have f1 := c3.frozen 1
      go_wp2_with fail
      refine bodyPost_ret (results_tct rfl _ _ w.heap.size _ _ _ rfl (Blk.set (Blk.set c3 _) _) Try.underlying63 (by kernel_rfl)) rfl ?_
      have kq : Kp w ((wr.setCell ⟨w.heap.size, 0, none⟩ (.int .i64 0)).setCell ⟨w.heap.size, 1, none⟩ (.int .i64 0)) := (kp.setCell (p := ⟨w.heap.size, 0, none⟩) (Nat.le_refl _) _).setCell (p := ⟨w.heap.size, 1, none⟩) (Nat.le_refl _) _
      have hw2 := hw
      rw [he.out] at hw2
      exact ⟨kq, Or.inl ⟨by rw [← he.out]; exact honce.out, _, rfl, ((hw2.setCell (a := ⟨w.heap.size, 0, none⟩) (Nat.succ_ne_self _) _).setCell (a := ⟨w.heap.size, 1, none⟩) (Nat.succ_ne_self _) _)⟩⟩
end Go.Proofs.Ytnbooljaodkedaa
