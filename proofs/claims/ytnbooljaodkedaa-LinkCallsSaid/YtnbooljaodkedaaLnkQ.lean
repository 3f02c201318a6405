/- The linker's small parts, walked: a word's bytes, what is thrown, clones, an address. Conditions stand at each. · What objects are linked to: by value. No condition. · The linker: an address of a target; the start: walked. Condition: what is linked lies in memory. · The linker: an object put into the memory: walked. Conditions stand at each. -/
import Derived.Test.YtnbooljaodkedaaLnkN
import Derived.Test.YtnbooljaodkedaaLnkLay
import Derived.Test.YtnbooljaodkedaaPatW
import Derived.Test.YtnbooljaodkedaaMachL
import Derived.Test.YtnbooljaodkedaaPlainLnkB
import Derived.Test.YtnbooljaodkedaaCodeN
import Derived.Deep.DeepCutAuto
namespace Go.Proofs.Ytnbooljaodkedaa
open Go.RowKit Go.Maps Go.Proofs.Ytnbooljaodkedaa.PC Go.Proofs.Ytnbooljaodkedaa.PW
set_option linter.unusedVariables false
set_option linter.unusedSimpArgs false
set_option maxRecDepth 100000 in
theorem lbytes_calls (x : Int) (hx : U x) (w : World) : Calls Try.prog 22 #[.int .u32 x] w fun e w' => e = .returned (.slice (some ⟨w.heap.size, 0, none⟩) 4 4) ∧ Kp w w' ∧ Blk w' w.heap.size (byV (bytesL [x])).toArray 5 := by
  have hx' : 0 ≤ x ∧ x ≤ 4294967295 := hx
  have hb : (byV (bytesL [x])).toArray = #[.int .u8 (x % 256), .int .u8 (x / 256 % 256), .int .u8 (x / 65536 % 256), .int .u8 (x / 16777216)] := by simp [byV, bytesL]; omega
  rw [hb]
  clear hb
  go_enter Try.func22, Try.ntmps22
  go_wp2
  go_ret
  exact ⟨rfl, by repeat (with_reducible first | exact Kp.refl _ | assumption | exact Dr.kp (by assumption) | refine Kp.drewN ?_ _ | refine Kp.drew ?_ | refine Kp.alloc ?_ _ | refine Kp.setCell ?_ (by first | exact Nat.le_refl _ | assumption | omega) _ | refine Kp.trans ?_ (by assumption) | refine Kp.trans ?_ (Dr.kp (by assumption))), Blk.new _ _ _⟩
/-- What is thrown by 'must'. -/
def thrownE (n : Int) : List PanicEntry := [{ v := .iface 29 (.int .i64 n), recovered := false }]
theorem must_ok (x : Int) (w : World) : Calls Try.prog 30 #[.int .u32 x, .int .i64 0] w fun e w' => e = .returned (.int .u32 x) ∧ w = w' := by
  go_enter Try.func30, Try.ntmps30
  go_wp2
  go_ret
  exact ⟨rfl, rfl⟩
theorem must_no (x n : Int) (hn : n ≠ 0) (w : World) : Calls Try.prog 30 #[.int .u32 x, .int .i64 n] w fun e w' => e = .panicked (thrownE n) ∧ w = w' := by
  have g : (n != 0) = true := bne_iff_ne.2 hn
  clear hn
  go_enter Try.func30, Try.ntmps30
  go_wp2
  exact ⟨rfl, rfl, rfl⟩
/-- A row whose first cells are these; it may be written. -/
def RowB (w : World) (g : Nat) (ty : TypeId) (xs : List Value) : Prop := ∃ tail : List Value, w.heap[g]? = some (.cells (xs ++ tail).toArray ty (0, 0))
theorem RowB.lt {w : World} {g : Nat} {ty : TypeId} {xs : List Value} (h : RowB w g ty xs) : g < w.heap.size := by
  obtain ⟨t, h⟩ := h
  exact (Array.getElem?_eq_some_iff.1 h).1
theorem RowB.cell {w : World} {g i : Nat} {ty : TypeId} {xs : List Value} (h : RowB w g ty xs) {x : Value} (hx : xs[i]? = some x) : w.cell? ⟨g, i, none⟩ = some x := by
  obtain ⟨t, h⟩ := h
  have hi := (List.getElem?_eq_some_iff.1 hx).1
  simp [World.cell?, h, List.getElem?_append_left hi, hx]
theorem RowB.frozen {w : World} {g : Nat} {ty : TypeId} {xs : List Value} (h : RowB w g ty xs) (i : Nat) : w.frozen? ⟨g, i, none⟩ = false := by
  obtain ⟨t, h⟩ := h
  simp [World.frozen?, h]
theorem RowB.same {w w' : World} {g : Nat} {ty : TypeId} {xs : List Value} (h : RowB w g ty xs) (hb : w'.heap[g]? = w.heap[g]?) : RowB w' g ty xs := by
  obtain ⟨t, h⟩ := h
  exact ⟨t, hb.trans h⟩
theorem RowB.kp {w w' : World} {g : Nat} {ty : TypeId} {xs : List Value} (h : RowB w g ty xs) (k : Kp w w') : RowB w' g ty xs := h.same (k.block h.lt)
theorem RowB.set {w : World} {g i : Nat} {ty : TypeId} {xs : List Value} (h : RowB w g ty xs) (hi : i < xs.length) (v : Value) : RowB (w.setCell ⟨g, i, none⟩ v) g ty (xs.set i v) := by
  obtain ⟨t, h⟩ := h
  refine ⟨t, ?_⟩
  rw [heap_setCell_same w g i _ _ v h]
  simp [List.set_append_left _ _ hi]
theorem RowB.of_own {w : World} {base : Nat} {ty : TypeId} {A : Option Addr} {m c n : Nat} {xs : List Value} (h : w.ownsRow base ty 1 (.slice A m c) n xs) (hn : 0 < n) : ∃ g, A = some ⟨g, 0, none⟩ ∧ m = n ∧ base ≤ g ∧ n ≤ c ∧ RowB w g ty xs := by
  have hx := h.1
  rcases h.2 with ⟨h1, h2⟩ | ⟨g, cap, cur, h1, h2, h3, h4, h5, h6, h7⟩
  · omega
  · injection h1 with e1 e2 e3
    subst e1 e2 e3
    refine ⟨g, rfl, rfl, h2, h4, ?_⟩
    refine ⟨cur.toList.drop (m * 1), ?_⟩
    rw [← h7, List.take_append_drop]
    exact h3
set_option maxRecDepth 100000 in
theorem info_u32L : ∃ i z, Try.prog.info? 44 = some i ∧ i.zero = some z ∧ i.size = 1 ∧ i.bytes = 4 ∧ z.cells.size = 1 := ⟨_, _, rfl, rfl, rfl, rfl, rfl⟩
set_option maxRecDepth 100000 in
theorem info_u8L : ∃ i z, Try.prog.info? 5 = some i ∧ i.zero = some z ∧ i.size = 1 ∧ i.bytes = 1 ∧ z.cells.size = 1 := ⟨_, _, rfl, rfl, rfl, rfl, rfl⟩
/-- What a clone comes to. -/
def CloneR (w : World) (ty : TypeId) (xs : List Value) (e : Ending) (w' : World) : Prop := ∃ A c, e = .returned (.slice A xs.length c) ∧ xs.length ≤ c ∧ Kp w w' ∧ (xs ≠ [] → ∃ g, A = some ⟨g, 0, none⟩ ∧ w.heap.size ≤ g ∧ RowB w' g ty xs)
theorem cloneR_own {w w' : World} {ty : TypeId} {v : Value} {xs : List Value} {n : Nat} (hn : xs.length = n) (h : w'.ownsRow w.heap.size ty 1 v n xs) (hk : Kp w w') : CloneR w ty xs (.returned v) w' := by
  subst hn
  rcases h.2 with ⟨h1, h2⟩ | ⟨g, cap, cur, h1, h2, h3, h4, h5, h6, h7⟩
  · subst h1
    exact ⟨none, 0, by rw [h2], by omega, hk, fun hne => absurd (List.eq_nil_of_length_eq_zero h2) hne⟩
  · subst h1
    refine ⟨_, _, rfl, h4, hk, fun _ => ⟨g, rfl, h2, cur.toList.drop (xs.length * 1), ?_⟩⟩
    have e : xs ++ cur.toList.drop (xs.length * 1) = cur.toList := by
      have := List.take_append_drop (xs.length * 1) cur.toList
      rw [h7] at this
      exact this
    rw [e]
    exact h3
set_option maxRecDepth 100000 in
set_option maxHeartbeats 1000000 in
theorem CloneW_calls {w : World} {A : Option Addr} {n c : Nat} (xs : List Int) (hl : xs.length = n) (hn : n ≤ 1000000) (h : WordsAt w A xs) (hA : A = none → n = 0 ∧ c = 0) :
    Calls Try.prog 33 #[.slice A n c] w (CloneR w 44 (xs.map (Value.int .u32))) := by
  obtain ⟨i8, z8, q1, q2, q3, q4, q5⟩ := info_u32L
  have hnil := fun W a l c => Lib.run_eql_slice_nil (P := Try.prog) W 34 44 a l c 0 0 Try.underlying34
  cases A with
  | none =>
    obtain ⟨rfl, rfl⟩ := hA rfl
    obtain rfl := List.eq_nil_of_length_eq_zero hl
    clear h hA q1 q2 q3 q4 q5
    go_enter Try.func33, Try.ntmps33
    go_wp2
    go_ret
    exact ⟨none, 0, rfl, by simp, Kp.refl _, fun hne => absurd rfl hne⟩
  | some ad =>
    have ho := World.ownsRow_lit (base := w.heap.size) (e := 44) (size := 1) w #[] 0 (Nat.le_refl _) (by decide) rfl
    have hnews : ∀ j u, (xs.map (Value.int .u32))[j]? = some u → (w.alloc (.cells #[] 44)).cell? (ad.add j) = some u := by
      intro j u hu
      have hj : j < xs.length := by
        rcases Nat.lt_or_ge j xs.length with h | h
        · exact h
        · rw [List.getElem?_eq_none (by simpa using h)] at hu; cases hu
      obtain ⟨g, off, e, hg, hc⟩ := h (by intro e; rw [e] at hj; simp at hj)
      injection e with e
      subst e
      rw [addr_add, cell_kept w _ hg, hc j hj, ← hu, List.getElem?_map, List.getD_eq_getElem?_getD, List.getElem?_eq_getElem hj]
      rfl
    replace hnews := Aside.mk hnews
    replace ho := Aside.mk ho
    replace h := Aside.mk h
    replace hl := Aside.mk hl
    replace q1 := Aside.mk q1
    replace q2 := Aside.mk q2
    replace q3 := Aside.mk q3
    replace q4 := Aside.mk q4
    replace q5 := Aside.mk q5
    go_enter Try.func33, Try.ntmps33
    go_wp2_with ((at_builtin); (refine wpList_append_own (w := w.alloc (.cells #[] 44)) rfl (.tmp 5) (.tmp 6) 34 rfl w.heap.size 44 i8 z8 1 4 Try.underlying34 q1.out q2.out q3.out q4.out q5.out (by decide) (.slice (some ⟨w.heap.size, 0, none⟩) 0 0) 0 [] rfl ho.out ad n c (xs.map (Value.int .u32)) rfl (by simp [hl.out]) hnews.out (by simp [Value.oneCell']) (by unfold maxLen; omega) (by omega) (by simp) ?_); (intro v' w1 hown hg _))
    go_ret
    exact cloneR_own (n := n) (by simp [hl.out]) (by simpa using hown) (((Kp.refl w).alloc _).grown hg (own_ge ho.out))
set_option maxRecDepth 100000 in
set_option maxHeartbeats 1000000 in
theorem CloneB_calls {w : World} {A : Option Addr} {n c : Nat} (xs : List Int) (hl : xs.length = n) (hn : n ≤ 1000000) (h : BytesAt w A xs) (hA : A = none → n = 0 ∧ c = 0) :
    Calls Try.prog 34 #[.slice A n c] w (CloneR w 5 (xs.map (Value.int .u8))) := by
  obtain ⟨i8, z8, q1, q2, q3, q4, q5⟩ := info_u8L
  have hnil := fun W a l c => Lib.run_eql_slice_nil (P := Try.prog) W 26 5 a l c 0 0 Try.underlying26
  cases A with
  | none =>
    obtain ⟨rfl, rfl⟩ := hA rfl
    obtain rfl := List.eq_nil_of_length_eq_zero hl
    clear h hA q1 q2 q3 q4 q5
    go_enter Try.func34, Try.ntmps34
    go_wp2
    go_ret
    exact ⟨none, 0, rfl, by simp, Kp.refl _, fun hne => absurd rfl hne⟩
  | some ad =>
    have ho := World.ownsRow_lit (base := w.heap.size) (e := 5) (size := 1) w #[] 0 (Nat.le_refl _) (by decide) rfl
    have hnews : ∀ j u, (xs.map (Value.int .u8))[j]? = some u → (w.alloc (.cells #[] 5)).cell? (ad.add j) = some u := by
      intro j u hu
      have hj : j < xs.length := by
        rcases Nat.lt_or_ge j xs.length with h | h
        · exact h
        · rw [List.getElem?_eq_none (by simpa using h)] at hu; cases hu
      obtain ⟨g, off, e, hg, hc⟩ := h (by intro e; rw [e] at hj; simp at hj)
      injection e with e
      subst e
      rw [addr_add, cell_kept w _ hg, hc j hj, ← hu, List.getElem?_map, List.getD_eq_getElem?_getD, List.getElem?_eq_getElem hj]
      rfl
    replace hnews := Aside.mk hnews
    replace ho := Aside.mk ho
    replace h := Aside.mk h
    replace hl := Aside.mk hl
    replace q1 := Aside.mk q1
    replace q2 := Aside.mk q2
    replace q3 := Aside.mk q3
    replace q4 := Aside.mk q4
    replace q5 := Aside.mk q5
    go_enter Try.func34, Try.ntmps34
    go_wp2_with ((at_builtin); (refine wpList_append_own (w := w.alloc (.cells #[] 5)) rfl (.tmp 5) (.tmp 6) 26 rfl w.heap.size 5 i8 z8 1 1 Try.underlying26 q1.out q2.out q3.out q4.out q5.out (by decide) (.slice (some ⟨w.heap.size, 0, none⟩) 0 0) 0 [] rfl ho.out ad n c (xs.map (Value.int .u8)) rfl (by simp [hl.out]) hnews.out (by simp [Value.oneCell']) (by unfold maxLen; omega) (by omega) (by simp) ?_); (intro v' w1 hown hg _))
    go_ret
    exact cloneR_own (n := n) (by simp [hl.out]) (by simpa using hown) (((Kp.refl w).alloc _).grown hg (own_ge ho.out))
end Go.Proofs.Ytnbooljaodkedaa
namespace Go.Proofs.Ytnbooljaodkedaa
open Go.RowKit Go.Proofs.Ytnbooljaodkedaa.PC Go.Proofs.Ytnbooljaodkedaa.PW
/-- The lengths of texts and data. -/
def tlen (os : List ObjV) (i : Nat) : Nat := ((os[i]?).map fun o => o.text.length).getD 0
def dlen (os : List ObjV) (i : Nat) : Nat := ((os[i]?).map fun o => o.data.length).getD 0
/-- Where an object's text and data begin; the bytes of the image. -/
def txtV (os : List ObjV) (i : Nat) : Nat := 12 + 4 * sumTo (tlen os) i
def datV (os : List ObjV) (i : Nat) : Nat := base (tlen os) os.length + sumTo (dlen os) i
def imgLen (os : List ObjV) : Nat := base (tlen os) os.length + sumTo (dlen os) os.length
/-- The address of a target. -/
def adrV (os : List ObjV) (t : Nat × Nat) : Int := match symAt os t with | some s => addrV (txtV os t.1) (datV os t.1) s.sect s.val | none => 0
open Classical in
/-- What a word becomes, if it does. -/
noncomputable def patO (k x v p : Int) : Option Int := if h : ∃ W, PatR k x v p W 0 then some h.choose else none
theorem patO_some {k x v p W : Int} (h : PatR k x v p W 0) : patO k x v p = some W := by
  have hx : ∃ W, PatR k x v p W 0 := ⟨W, h⟩
  unfold patO
  rw [dif_pos hx]
  exact congrArg some (patR_unique hx.choose_spec h).1
theorem patO_none {k x v p W E : Int} (h : PatR k x v p W E) (hE : E ≠ 0) : patO k x v p = none := by
  unfold patO
  rw [dif_neg]
  rintro ⟨W', h'⟩
  exact hE (patR_unique h h').2
theorem pat_range {k x v p W E : Int} (hv : U v) (h : PatR k x v p W E) : U W := by
  rcases h with ⟨_, rfl, _⟩ | ⟨_, rfl, _⟩ | ⟨_, op, rd, rs1, rs2, n, er, _, ⟨_, rfl, _⟩ | ⟨_, _, _, ⟨_, rfl, _⟩ | ⟨_, rfl, _⟩⟩⟩
  · exact (by unfold U; decide : U 0)
  · exact hv
  · exact (by unfold U; decide : U 0)
  · exact (by unfold U; decide : U 0)
  · have := insW_range op rd rs1 rs2 (immP k v p)
    exact this
/-- What is wrong with a relocation's patch is that it is too far. -/
theorem pat_far {k x v p W E : Int} (hk : ofW k x) (h : PatR k x v p W E) : E = 0 ∨ E = 7 := by
  obtain ⟨op, rd, rs1, rs2, h1, h2, h3⟩ := hk
  have hk5 : 1 ≤ k ∧ k ≤ 5 := by unfold ofK at h3; omega
  rcases h with ⟨hk', _, _⟩ | ⟨hk', _, _⟩ | ⟨_, op', rd', rs1', rs2', n, er, hd, hc⟩
  · omega
  · omega
  · rw [← h2] at hd
    obtain ⟨e1, e2, _, _, _, e6⟩ := decR_of h1 hd
    rcases hc with ⟨hc, _, _⟩ | ⟨_, _, _, ⟨_, _, rfl⟩ | ⟨_, _, rfl⟩⟩
    · exfalso
      rcases hc with hc | hc | hc
      · exact hc e1
      · exact hc e6
      · exact hc (by rw [e2]; exact h3)
    · exact Or.inr rfl
    · exact Or.inl rfl
/-- What a relocation puts in. -/
def relVal (os : List ObjV) (i : Nat) (o : ObjV) (r : RelV) : Int := ((match (o.syms[r.sym.toNat]?).bind (tgtV os i r.sym.toNat) with | some t => adrV os t | none => 0) + r.add) % 4294967296
/-- An object's text and data, one relocation more. -/
noncomputable def stepR (os : List ObjV) (i : Nat) (o : ObjV) (TD : List Int × List Int) (r : RelV) : Option (List Int × List Int) :=
  if r.sect = 2 then some (TD.1, splice TD.2 r.at_.toNat (bytesL [relVal os i o r]))
  else (patO r.kind (TD.1.getD r.at_.toNat 0) (relVal os i o r) (addrV (txtV os i) (datV os i) r.sect r.at_)).map fun W => (TD.1.set r.at_.toNat W, TD.2)
noncomputable def objR (os : List ObjV) (i : Nat) (o : ObjV) : Option (List Int × List Int) := o.rels.foldlM (stepR os i o) (o.text, o.data)
/-- The memory, an object more. -/
noncomputable def objMem (os : List ObjV) (i : Nat) (o : ObjV) (mem : List Int) : Option (List Int) := (objR os i o).map fun TD => splice (splice mem (txtV os i) (bytesL TD.1)) (datV os i) TD.2
/-- The start. -/
noncomputable def startW (os : List ObjV) (t : Nat × Nat) : Option (List Int) := (patO 4 (insW 40 1 0 0 0) (adrV os t) 0).map fun j => [j, insW 18 17 0 0 3, insW 42 0 0 0 0]
noncomputable def memFrom (os : List ObjV) : Nat → List ObjV → List Int → Option (List Int)
  | _, [], mem => some mem
  | i, o :: l, mem => (objMem os i o mem).bind (memFrom os (i + 1) l)
/-- The image. -/
noncomputable def imageV (os : List ObjV) (t : Nat × Nat) : Option (List Int) := (startW os t).bind fun s => memFrom os 0 os (splice (List.replicate (imgLen os) 0) 0 (bytesL s))
end Go.Proofs.Ytnbooljaodkedaa
namespace Go.Proofs.Ytnbooljaodkedaa
open Go.RowKit Go.Maps Go.Proofs.Ytnbooljaodkedaa.PC Go.Proofs.Ytnbooljaodkedaa.PW
set_option linter.unusedVariables false
set_option linter.unusedSimpArgs false
/-- The linker, and what it leads to. -/
structure Lk (w : World) (LK : Nat) (G : Option Addr) (n c OB PB : Nat) (os : List ObjV) : Prop where
  blk : Blk w LK #[.slice G n c, .slice (some ⟨OB, 0, none⟩) n n, .slice (some ⟨PB, 0, none⟩) n n] 70
  objs : ObjsAt w G os
  len : os.length = n
  ob : OB < w.heap.size
  tg : TgtsAt w OB os
  pb : PB < w.heap.size
  pl : ∀ i, i < n → w.cell? ⟨PB, i * 2, none⟩ = some (.int .i64 (txtV os i)) ∧ w.cell? ⟨PB, i * 2 + 1, none⟩ = some (.int .i64 (datV os i))
theorem Lk.kp {w w' : World} {LK : Nat} {G : Option Addr} {n c OB PB : Nat} {os : List ObjV} (h : Lk w LK G n c OB PB os) (k : Kp w w') : Lk w' LK G n c OB PB os := by
  refine ⟨h.blk.kp k, h.objs.kp k, h.len, Nat.lt_of_lt_of_le h.ob k.size, fun i o ho => ?_, Nat.lt_of_lt_of_le h.pb k.size, fun i hi => ?_⟩
  · obtain ⟨v, h1, h2⟩ := h.tg i o ho
    exact ⟨v, (k.cell (p := ⟨OB, i, none⟩) h.ob).trans h1, h2.kp k⟩
  · obtain ⟨h1, h2⟩ := h.pl i hi
    exact ⟨(k.cell (p := ⟨PB, i * 2, none⟩) h.pb).trans h1, (k.cell (p := ⟨PB, i * 2 + 1, none⟩) h.pb).trans h2⟩
set_option maxRecDepth 100000 in
set_option maxHeartbeats 4000000 in
theorem value_calls {w : World} {LK : Nat} {G : Option Addr} {n c OB PB : Nat} {os : List ObjV} (h : Lk w LK G n c OB PB os) {t : Nat × Nat} {s : SymV} (ht : symAt os t = some s) :
    Calls Try.prog 32 #[.pointer (some ⟨LK, 0, none⟩), .agg #[.int .i64 t.1, .int .i64 t.2]] w fun e w' => e = .returned (.int .u32 (adrV os t)) ∧ Kp w w' := by
  obtain ⟨t0, t1⟩ := t
  have hadr : Aside (adrV os (t0, t1) = addrV (txtV os t0) (datV os t0) s.sect s.val) := ⟨by unfold adrV; rw [ht]⟩
  unfold symAt at ht
  obtain ⟨o, ho, hs⟩ := Option.bind_eq_some_iff.1 ht
  have ht0 : t0 < n := by have := (List.getElem?_eq_some_iff.1 ho).1; have := h.len; omega
  have ht1 := (List.getElem?_eq_some_iff.1 hs).1
  dsimp only at ho hs ht0 ht1
  have kA : Kp w (w.alloc (.cells #[.int .i64 t0, .int .i64 t1] 63)) := (Kp.refl w).alloc _
  have bt := Blk.new w #[.int .i64 t0, .int .i64 t1] 63
  have hL := h.kp kA
  obtain ⟨p0, p1⟩ := hL.pl t0 ht0
  obtain ⟨g, off, hG, hg, hc⟩ := hL.objs (by rintro rfl; simp at ho)
  obtain ⟨A, ct, B', cd, C, cs, D, cr, q0, q1, q2, q3, hat, -⟩ := hc t0 o ho
  obtain ⟨g', off', hC, hg', hc'⟩ := hat.syms (by intro e; rw [e] at hs; simp at hs)
  obtain ⟨s0, s1, s2, s3, s4⟩ := hc' t1 s hs
  have b0 := hL.blk.cell 0
  have b2 := hL.blk.cell 2
  have x0 := bt.cell 0
  have x1 := bt.cell 1
  have i0 : (0 : Int) ≤ (t0 : Int) := by omega
  have i1 : (t0 : Int) < (n : Int) := by omega
  have j0 : (0 : Int) ≤ (t1 : Int) := by omega
  have j1 : (t1 : Int) < (o.syms.length : Int) := by omega
  subst hG hC
  rw [hadr.out]
  obtain ⟨nm, sect, val, frame, glob⟩ := s
  simp only at s0 s1 s2 s3 s4 ⊢
  have lL := hL.blk.lt
  have lP := hL.pb
  have lX := bt.lt
  clear hc hc' hat ho hs ht hadr q0 q1 q3 h hL bt
  generalize o.syms.length = ns at *
  generalize txtV os t0 = pt at *
  generalize datV os t0 = pd at *
  replace kA := Aside.mk kA
  go_enter Try.func32, Try.ntmps32
  go_upto_region 1 with fail
  generalize w.alloc (.cells #[.int .i64 t0, .int .i64 t1] 63) = W at *
  have ten : Aside (∀ V, Kp W V → (V.cell? ⟨LK, 0, none⟩ = some (.slice (some ⟨g, off, none⟩) n c) ∧ V.cell? ⟨LK, 2, none⟩ = some (.slice (some ⟨PB, 0, none⟩) n n) ∧ V.cell? ⟨w.heap.size, 0, none⟩ = some (.int .i64 t0) ∧ V.cell? ⟨w.heap.size, 1, none⟩ = some (.int .i64 t1) ∧ V.cell? ⟨PB, t0 * 2, none⟩ = some (.int .i64 pt) ∧ V.cell? ⟨PB, t0 * 2 + 1, none⟩ = some (.int .i64 pd) ∧ V.cell? ⟨g, off + t0 * 4 + 2, none⟩ = some (.slice (some ⟨g', off', none⟩) ns cs) ∧ V.cell? ⟨g', off' + t1 * 5, none⟩ = some (.string nm) ∧ V.cell? ⟨g', off' + t1 * 5 + 1, none⟩ = some (.int .i64 sect) ∧ V.cell? ⟨g', off' + t1 * 5 + 2, none⟩ = some (.int .i64 val) ∧ V.cell? ⟨g', off' + t1 * 5 + 3, none⟩ = some (.int .i64 frame) ∧ V.cell? ⟨g', off' + t1 * 5 + 4, none⟩ = some (.bool glob))) := ⟨fun V hV => ⟨(hV.cell (p := ⟨LK, 0, none⟩) lL).trans b0, (hV.cell (p := ⟨LK, 2, none⟩) lL).trans b2, (hV.cell (p := ⟨w.heap.size, 0, none⟩) lX).trans x0, (hV.cell (p := ⟨w.heap.size, 1, none⟩) lX).trans x1, (hV.cell (p := ⟨PB, t0 * 2, none⟩) lP).trans p0, (hV.cell (p := ⟨PB, t0 * 2 + 1, none⟩) lP).trans p1, (hV.cell (p := ⟨g, off + t0 * 4 + 2, none⟩) hg).trans q2, (hV.cell (p := ⟨g', off' + t1 * 5, none⟩) hg').trans s0, (hV.cell (p := ⟨g', off' + t1 * 5 + 1, none⟩) hg').trans s1, (hV.cell (p := ⟨g', off' + t1 * 5 + 2, none⟩) hg').trans s2, (hV.cell (p := ⟨g', off' + t1 * 5 + 3, none⟩) hg').trans s3, (hV.cell (p := ⟨g', off' + t1 * 5 + 4, none⟩) hg').trans s4⟩⟩
  refine wp_hide (fun Q0 hQ0 => ?_)
  refine wp_region_held_drew (S := fun w' => w'.cell? ⟨LK, 0, none⟩ = some (.slice (some ⟨g, off, none⟩) n c) ∧ w'.cell? ⟨LK, 2, none⟩ = some (.slice (some ⟨PB, 0, none⟩) n n) ∧ w'.cell? ⟨w.heap.size, 0, none⟩ = some (.int .i64 t0) ∧ w'.cell? ⟨w.heap.size, 1, none⟩ = some (.int .i64 t1) ∧ w'.cell? ⟨PB, t0 * 2, none⟩ = some (.int .i64 pt) ∧ w'.cell? ⟨PB, t0 * 2 + 1, none⟩ = some (.int .i64 pd) ∧ w'.cell? ⟨g, off + t0 * 4 + 2, none⟩ = some (.slice (some ⟨g', off', none⟩) ns cs) ∧ w'.cell? ⟨g', off' + t1 * 5, none⟩ = some (.string nm) ∧ w'.cell? ⟨g', off' + t1 * 5 + 1, none⟩ = some (.int .i64 sect) ∧ w'.cell? ⟨g', off' + t1 * 5 + 2, none⟩ = some (.int .i64 val) ∧ w'.cell? ⟨g', off' + t1 * 5 + 3, none⟩ = some (.int .i64 frame) ∧ w'.cell? ⟨g', off' + t1 * 5 + 4, none⟩ = some (.bool glob)) (by kernel_rfl) ?hS0a (fun hHeld => ?_)
  case hS0a => exact (show _ from ⟨b0, b2, x0, x1, p0, p1, q2, s0, s1, s2, s3, s4⟩)
  refine wpAnyH_takeL (i := 0) (v := ?v0a) rfl (by kernel_rfl) (by kernel_rfl) (by kernel_rfl) (fun _ _ _ h => h) (Or.inl ⟨by kernel_rfl, ?hy0a⟩) (by assumption) ?rest0a
  case hy0a => (intro w hSw; (try dsimp only at hSw); go_simp; (try with_reducible rfl))
  try simp only [Act.put, List.setIfInBounds_toArray, List.set_cons_zero, List.set_cons_succ]
  refine wpAnyH_takeL (i := 1) (v := ?v1a) rfl (by kernel_rfl) (by kernel_rfl) (by kernel_rfl) (fun _ _ _ h => h) (Or.inl ⟨by kernel_rfl, ?hy1a⟩) (by assumption) ?rest1a
  case hy1a => (intro w hSw; (try dsimp only at hSw); go_simp; (try with_reducible rfl))
  try simp only [Act.put, List.setIfInBounds_toArray, List.set_cons_zero, List.set_cons_succ]
  refine wpAnyH_takeL (i := 2) (v := ?v2a) rfl (by kernel_rfl) (by kernel_rfl) (by kernel_rfl) (fun _ _ _ h => h) (Or.inl ⟨by kernel_rfl, ?hy2a⟩) (by assumption) ?rest2a
  case hy2a => (intro w hSw; (try dsimp only at hSw); go_simp; (try with_reducible rfl))
  try simp only [Act.put, List.setIfInBounds_toArray, List.set_cons_zero, List.set_cons_succ]
  refine wpAnyH_takeL (i := 3) (v := ?v3a) rfl (by kernel_rfl) (by kernel_rfl) (by kernel_rfl) (fun _ _ _ h => h) (Or.inl ⟨by kernel_rfl, ?hy3a⟩) (by assumption) ?rest3a
  case hy3a => (intro w hSw; (try dsimp only at hSw); go_simp; (try with_reducible rfl))
  try simp only [Act.put, List.setIfInBounds_toArray, List.set_cons_zero, List.set_cons_succ]
  refine wpAnyH_takeL (i := 4) (v := ?v4a) rfl (by kernel_rfl) (by kernel_rfl) (by kernel_rfl) (fun _ _ _ h => h) (Or.inl ⟨by kernel_rfl, ?hy4a⟩) (by assumption) ?rest4a
  case hy4a => (intro w hSw; (try dsimp only at hSw); go_simp; (try with_reducible rfl))
  try simp only [Act.put, List.setIfInBounds_toArray, List.set_cons_zero, List.set_cons_succ]
  refine wpAnyH_takeL (i := 5) (v := ?v5a) rfl (by kernel_rfl) (by kernel_rfl) (by kernel_rfl) (fun _ _ _ h => h) (Or.inl ⟨by kernel_rfl, ?hy5a⟩) (by assumption) ?rest5a
  case hy5a => (intro w hSw; (try dsimp only at hSw); go_simp; (try with_reducible rfl))
  try simp only [Act.put, List.setIfInBounds_toArray, List.set_cons_zero, List.set_cons_succ]
  refine wpAnyH_takeL (i := 6) (v := ?v6a) rfl (by kernel_rfl) (by kernel_rfl) (by kernel_rfl) (fun _ _ _ h => h) (Or.inl ⟨by kernel_rfl, ?hy6a⟩) (by assumption) ?rest6a
  case hy6a => (intro w hSw; (try dsimp only at hSw); go_simp; (try with_reducible rfl))
  try simp only [Act.put, List.setIfInBounds_toArray, List.set_cons_zero, List.set_cons_succ]
  refine wpAnyH_takeL (i := 7) (v := ?v7a) rfl (by kernel_rfl) (by kernel_rfl) (by kernel_rfl) (fun _ _ _ h => h) (Or.inl ⟨by kernel_rfl, ?hy7a⟩) (by assumption) ?rest7a
  case hy7a => (intro w hSw; (try dsimp only at hSw); go_simp; (try with_reducible rfl))
  try simp only [Act.put, List.setIfInBounds_toArray, List.set_cons_zero, List.set_cons_succ]
  refine wpAnyH_takeL (i := 8) (v := ?v8a) rfl (by kernel_rfl) (by kernel_rfl) (by kernel_rfl) (fun _ _ _ h => h) (Or.inl ⟨by kernel_rfl, ?hy8a⟩) (by assumption) ?rest8a
  case hy8a => (intro w hSw; (try dsimp only at hSw); go_simp; (try with_reducible rfl))
  try simp only [Act.put, List.setIfInBounds_toArray, List.set_cons_zero, List.set_cons_succ]
  refine wpAnyH_takeL (i := 9) (v := ?v9a) rfl (by kernel_rfl) (by kernel_rfl) (by kernel_rfl) (fun _ _ _ h => h) (Or.inl ⟨by kernel_rfl, ?hy9a⟩) (by assumption) ?rest9a
  case hy9a => (intro w hSw; (try dsimp only at hSw); go_simp; (try with_reducible rfl))
  try simp only [Act.put, List.setIfInBounds_toArray, List.set_cons_zero, List.set_cons_succ]
  refine wpAnyH_takeL (i := 10) (v := ?v10a) rfl (by kernel_rfl) (by kernel_rfl) (by kernel_rfl) (fun _ _ _ h => h) (Or.inl ⟨by kernel_rfl, ?hy10a⟩) (by assumption) ?rest10a
  case hy10a => (intro w hSw; (try dsimp only at hSw); go_simp; (try with_reducible rfl))
  try simp only [Act.put, List.setIfInBounds_toArray, List.set_cons_zero, List.set_cons_succ]
  refine wpAnyH_takeL (i := 11) (v := ?v11a) rfl (by kernel_rfl) (by kernel_rfl) (by kernel_rfl) (fun _ _ _ h => h) (Or.inl ⟨by kernel_rfl, ?hy11a⟩) (by assumption) ?rest11a
  case hy11a => (intro w hSw; (try dsimp only at hSw); go_simp; (try with_reducible rfl))
  try simp only [Act.put, List.setIfInBounds_toArray, List.set_cons_zero, List.set_cons_succ]
  refine wpAnyH_takeL (i := 12) (v := ?v12a) rfl (by kernel_rfl) (by kernel_rfl) (by kernel_rfl) (fun _ _ _ h => h) (Or.inl ⟨by kernel_rfl, ?hy12a⟩) (by assumption) ?rest12a
  case hy12a => (intro w hSw; (try dsimp only at hSw); go_simp; (try with_reducible rfl))
  try simp only [Act.put, List.setIfInBounds_toArray, List.set_cons_zero, List.set_cons_succ]
  refine wpAnyH_takeL (i := 13) (v := ?v13a) rfl (by kernel_rfl) (by kernel_rfl) (by kernel_rfl) (fun _ _ _ h => h) (Or.inl ⟨by kernel_rfl, ?hy13a⟩) (by assumption) ?rest13a
  case hy13a => (intro w hSw; (try dsimp only at hSw); go_simp; (try with_reducible rfl))
  try simp only [Act.put, List.setIfInBounds_toArray, List.set_cons_zero, List.set_cons_succ]
  refine wpAnyH_takeL (i := 14) (v := ?v14a) rfl (by kernel_rfl) (by kernel_rfl) (by kernel_rfl) (fun _ _ _ h => h) (Or.inl ⟨by kernel_rfl, ?hy14a⟩) (by assumption) ?rest14a
  case hy14a => (intro w hSw; (try dsimp only at hSw); go_simp; (try with_reducible rfl))
  try simp only [Act.put, List.setIfInBounds_toArray, List.set_cons_zero, List.set_cons_succ]
  refine wpAnyH_takeL (i := 15) (v := ?v15a) rfl (by kernel_rfl) (by kernel_rfl) (by kernel_rfl) (fun _ _ _ h => h) (Or.inl ⟨by kernel_rfl, ?hy15a⟩) (by assumption) ?rest15a
  case hy15a => (intro w hSw; (try dsimp only at hSw); go_simp; (try with_reducible rfl))
  try simp only [Act.put, List.setIfInBounds_toArray, List.set_cons_zero, List.set_cons_succ]
  refine wpAnyH_takeL (i := 16) (v := ?v16a) rfl (by kernel_rfl) (by kernel_rfl) (by kernel_rfl) (fun _ _ _ h => h) (Or.inl ⟨by kernel_rfl, ?hy16a⟩) (by assumption) ?rest16a
  case hy16a => (intro w hSw; (try dsimp only at hSw); go_simp; (try with_reducible rfl))
  try simp only [Act.put, List.setIfInBounds_toArray, List.set_cons_zero, List.set_cons_succ]
  refine wpAnyH_takeL (i := 17) (v := ?v17a) rfl (by kernel_rfl) (by kernel_rfl) (by kernel_rfl) (fun _ _ _ h => h) (Or.inl ⟨by kernel_rfl, ?hy17a⟩) (by assumption) ?rest17a
  case hy17a => (intro w hSw; (try dsimp only at hSw); go_simp; (try with_reducible rfl))
  try simp only [Act.put, List.setIfInBounds_toArray, List.set_cons_zero, List.set_cons_succ]
  refine wpAnyH_takeL (i := 18) (v := ?v18a) rfl (by kernel_rfl) (by kernel_rfl) (by kernel_rfl) (fun _ _ _ h => h) (Or.inl ⟨by kernel_rfl, ?hy18a⟩) (by assumption) ?rest18a
  case hy18a => (intro w hSw; (try dsimp only at hSw); go_simp; (try with_reducible rfl))
  try simp only [Act.put, List.setIfInBounds_toArray, List.set_cons_zero, List.set_cons_succ]
  refine wpAnyH_takeL (i := 19) (v := ?v19a) rfl (by kernel_rfl) (by kernel_rfl) (by kernel_rfl) (fun _ _ _ h => h) (Or.inl ⟨by kernel_rfl, ?hy19a⟩) (by assumption) ?rest19a
  case hy19a => (intro w hSw; (try dsimp only at hSw); go_simp; (try with_reducible rfl))
  try simp only [Act.put, List.setIfInBounds_toArray, List.set_cons_zero, List.set_cons_succ]
  refine wpAnyH_takeL (i := 20) (v := ?v20a) rfl (by kernel_rfl) (by kernel_rfl) (by kernel_rfl) (fun _ _ _ h => h) (Or.inl ⟨by kernel_rfl, ?hy20a⟩) (by assumption) ?rest20a
  case hy20a => (intro w hSw; (try dsimp only at hSw); go_simp; (try with_reducible rfl))
  try simp only [Act.put, List.setIfInBounds_toArray, List.set_cons_zero, List.set_cons_succ]
  refine wpAnyH_ready (rs := [21]) (by kernel_rfl) (by simp) ?_
  refine AllReadyH.consL rfl (fun Kx hKx => ?_) AllReadyH.nil
  go_simp
  refine Calls.mono (Address_calls pt pd nm sect val frame glob _) ?_
  rintro e w2 ⟨rfl, k2⟩
  have kW2 := ((Kp.refl W).drew).trans k2
  refine hKx.out _ _ (ten.out _ kW2) (fun hHeld => ?_)
  clear hKx
  try simp only [Act.put, List.setIfInBounds_toArray, List.set_cons_zero, List.set_cons_succ]
  refine wpAnyH_takeL (i := 22) (v := ?v22a) rfl (by kernel_rfl) (by kernel_rfl) (by kernel_rfl) (fun _ _ _ h => h) (Or.inl ⟨by kernel_rfl, ?hy22a⟩) (by assumption) ?rest22a
  case hy22a => (intro w hSw; (try dsimp only at hSw); go_simp; (try with_reducible rfl))
  try simp only [Act.put, List.setIfInBounds_toArray, List.set_cons_zero, List.set_cons_succ]
  refine wpAnyH_done (by kernel_rfl) (hQ0.out _ _ ?_) _
  go_wp2_with fail
  go_ret
  exact ⟨rfl, kA.out.trans kW2⟩
theorem adr_U (os : List ObjV) (t : Nat × Nat) : U (adrV os t) := by
  have key : ∀ a b c d : Int, U (addrV a b c d) := by
    intro a b c d
    unfold addrV U
    split
    · omega
    · split <;> omega
  unfold adrV
  cases symAt os t with
  | none => exact (by unfold U; decide : U 0)
  | some s => exact key _ _ _ _
theorem insW_U (op rd rs1 rs2 n : Int) : U (insW op rd rs1 rs2 n) := insW_range op rd rs1 rs2 n
theorem jal_e : insE 40 1 0 0 0 = 0 := by decide +kernel
theorem addi_e : insE 18 17 0 0 3 = 0 := by decide +kernel
theorem ecall_e : insE 42 0 0 0 0 = 0 := by decide +kernel
theorem jal_of : ofW 4 (insW 40 1 0 0 0) := ⟨40, 1, 0, 0, jal_e, rfl, by unfold ofK; omega⟩
set_option maxRecDepth 100000 in
set_option maxHeartbeats 4000000 in
theorem start_calls {w : World} {LK : Nat} {G : Option Addr} {n c OB PB : Nat} {os : List ObjV} (h : Lk w LK G n c OB PB os) {t : Nat × Nat} {s : SymV} (ht : symAt os t = some s) :
    Calls Try.prog 21 #[.pointer (some ⟨LK, 0, none⟩), .agg #[.int .i64 t.1, .int .i64 t.2]] w fun e w' => Kp w w' ∧ ((∃ j, patO 4 (insW 40 1 0 0 0) (adrV os t) 0 = some j ∧ ∃ g, e = .returned (.slice (some ⟨g, 0, none⟩) 3 3) ∧ w.heap.size ≤ g ∧ Blk w' g #[.int .u32 j, .int .u32 (insW 18 17 0 0 3), .int .u32 (insW 42 0 0 0 0)] 44) ∨ (patO 4 (insW 40 1 0 0 0) (adrV os t) 0 = none ∧ e = .panicked (thrownE 7))) := by
  have hv := Aside.mk (fun (W : World) (hW : Kp w W) => value_calls (h.kp hW) ht)
  replace h := Aside.mk h
  replace ht := Aside.mk ht
  have hu := adr_U os t
  obtain ⟨t0, t1⟩ := t
  have bt := Aside.mk (Blk.new w #[.int .i64 t0, .int .i64 t1] 63)
  have kA : Aside (Kp w (w.alloc (.cells #[.int .i64 t0, .int .i64 t1] 63))) := ⟨(Kp.refl w).alloc _⟩
  generalize hadr : adrV os (t0, t1) = adr at *
  replace hadr := Aside.mk hadr
  dsimp only at hv ⊢
  go_enter Try.func21, Try.ntmps21
  go_wp2_with fail
  refine Calls.mono (Encode_calls 40 1 0 0 0 (by decide) (by decide) _) ?_
  rintro e w1 ⟨rfl, k1⟩
  have k01 := Aside.mk (kA.out.trans k1)
  have bt1 := Aside.mk (bt.out.kp k1)
  clear k1 bt kA
  go_wp2_with fail
  refine Calls.mono (Encode_calls 18 17 0 0 3 (by decide) (by decide) _) ?_
  rintro e w2 ⟨rfl, k2⟩
  have k02 := Aside.mk (k01.out.trans k2)
  have bt2 := Aside.mk (bt1.out.kp k2)
  clear k2 bt1 k01
  go_wp2_with fail
  refine Calls.mono (Encode_calls 42 0 0 0 0 (by decide) (by decide) _) ?_
  rintro e w3 ⟨rfl, k3⟩
  have k03 := Aside.mk (k02.out.trans k3)
  have bt3 := bt2.out.kp k3
  clear k3 bt2 k02
  have x0 : w3.cell? ⟨w.heap.size, 0, none⟩ = some (.int .i64 t0) := bt3.cell 0
  have x1 : w3.cell? ⟨w.heap.size, 1, none⟩ = some (.int .i64 t1) := bt3.cell 1
  have l3 := bt3.lt
  replace bt3 := Aside.mk bt3
  rw [jal_e, addi_e, ecall_e] at *
  go_wp2_with fail
  refine Calls.mono (hv.out w3 k03.out) ?_
  rintro e w4 ⟨rfl, k4⟩
  have k04 : Aside (Kp w w4) := ⟨k03.out.trans k4⟩
  clear k4 bt3 hv x0 x1 l3 k03
  have hsz : Aside (w.heap.size ≤ w4.heap.size) := ⟨k04.out.size⟩
  go_wp2_with fail
  refine Calls.mono (Patch_calls 4 (insW 40 1 0 0 0) adr 0 (insW_U _ _ _ _ _) hu (by unfold U; decide) _) ?_
  rintro e w5 ⟨W, E, rfl, hp, k5⟩
  have k05 : Aside (Kp w w5) := ⟨k04.out.trans k5⟩
  have hsz5 : Aside (w.heap.size ≤ w5.heap.size) := ⟨k05.out.size⟩
  clear k5 k04 hsz
  rcases pat_far jal_of hp with rfl | rfl
  · have hj := Aside.mk (patO_some hp)
    clear hp
    go_wp2_with fail
    refine Calls.mono (must_ok W _) ?_
    rintro e w6 ⟨rfl, rfl⟩
    go_wp2_with fail
    go_ret
    exact ⟨k05.out.alloc _, Or.inl ⟨W, hj.out, _, rfl, hsz5.out, Blk.new _ _ _⟩⟩
  · have hj := Aside.mk (patO_none hp (by decide))
    clear hp
    go_wp2_with fail
    refine Calls.mono (must_no W 7 (by decide) _) ?_
    rintro e w6 ⟨rfl, rfl⟩
    go_wp2_with fail
    exact ⟨rfl, k05.out, Or.inr ⟨hj.out, rfl⟩⟩
end Go.Proofs.Ytnbooljaodkedaa
namespace Go.Proofs.Ytnbooljaodkedaa
open Go.RowKit Go.Maps Go.Proofs.Ytnbooljaodkedaa.PC Go.Proofs.Ytnbooljaodkedaa.PW
set_option linter.unusedVariables false
set_option linter.unusedSimpArgs false
theorem Mod.kp0 {w0 w w' : World} {g : Nat} (k : Kp w0 w) (hg : w0.heap.size ≤ g) (m : Mod (fun k => k = g) w w') : Kp w0 w' := by
  exact ⟨⟨m.os.trans k.out.os, m.tape.trans k.out.tape, m.output.trans k.out.output, Nat.le_trans k.size m.size, fun j hj => (m.block j (Nat.lt_of_lt_of_le hj k.size) (by omega)).trans (k.block hj)⟩⟩
theorem RowB.md {w w' : World} {g b : Nat} {ty : TypeId} {xs : List Value} (h : RowB w g ty xs) (hne : g ≠ b) (m : Mod (fun k => k = b) w w') : RowB w' g ty xs := by
  obtain ⟨t, h'⟩ := h
  exact ⟨t, (m.block g (RowB.lt ⟨t, h'⟩) hne).trans h'⟩
/-- The memory, and an object's text and data of its own, being filled. -/
structure Ob (w0 w : World) (MB TG DG : Nat) (mem T D : List Int) : Prop where
  kp : Kp w0 w
  mem : Blk w MB (byV mem).toArray 5
  txt : T ≠ [] → RowB w TG 44 (T.map (.int .u32))
  dat : D ≠ [] → RowB w DG 5 (byV D)
theorem Ob.go {w0 w w' : World} {MB TG DG : Nat} {mem T D : List Int} (h : Ob w0 w MB TG DG mem T D) (k : Kp w w') : Ob w0 w' MB TG DG mem T D :=
  ⟨h.kp.trans k, h.mem.kp k, fun e => (h.txt e).kp k, fun e => (h.dat e).kp k⟩
theorem Ob.onMem {w0 w w' : World} {MB TG DG : Nat} {mem mem' T D : List Int} (h : Ob w0 w MB TG DG mem T D) (h0 : w0.heap.size ≤ MB) (h1 : TG ≠ MB) (h2 : DG ≠ MB) (m : Mod (fun k => k = MB) w w') (hb : Blk w' MB (byV mem').toArray 5) : Ob w0 w' MB TG DG mem' T D :=
  ⟨Mod.kp0 h.kp h0 m, hb, fun e => (h.txt e).md h1 m, fun e => (h.dat e).md h2 m⟩
theorem Ob.onDat {w0 w w' : World} {MB TG DG : Nat} {mem D' T D : List Int} (h : Ob w0 w MB TG DG mem T D) (h0 : w0.heap.size ≤ DG) (h1 : TG ≠ DG) (h2 : DG ≠ MB) (m : Mod (fun k => k = DG) w w') (hb : RowB w' DG 5 (byV D')) : Ob w0 w' MB TG DG mem T D' :=
  ⟨Mod.kp0 h.kp h0 m, (m.block MB h.mem.lt h2.symm).trans h.mem, fun e => (h.txt e).md h1 m, fun _ => hb⟩
theorem Ob.onTxt {w0 w : World} {MB TG DG : Nat} {mem T D : List Int} (h : Ob w0 w MB TG DG mem T D) (h0 : w0.heap.size ≤ TG) (h1 : TG ≠ DG) (h2 : TG ≠ MB) {j : Nat} (hj : j < T.length) (x : Int) : Ob w0 (w.setCell ⟨TG, j, none⟩ (.int .u32 x)) MB TG DG mem (T.set j x) D := by
  have hT : T ≠ [] := by rintro rfl; simp at hj
  refine ⟨h.kp.setCell h0 _, h.mem.far h2.symm _, fun _ => ?_, fun e => ?_⟩
  · have := (h.txt hT).set (i := j) (by simpa using hj) (.int .u32 x)
    rwa [← List.map_set] at this
  · obtain ⟨t, hd⟩ := h.dat e
    exact ⟨t, Blk.far (b' := TG) (i := j) hd h1.symm _⟩
theorem tlen_at {os : List ObjV} {i : Nat} {o : ObjV} (h : os[i]? = some o) : tlen os i = o.text.length := by simp [tlen, h]
theorem dlen_at {os : List ObjV} {i : Nat} {o : ObjV} (h : os[i]? = some o) : dlen os i = o.data.length := by simp [dlen, h]
theorem txt_fit {os : List ObjV} {i : Nat} {o : ObjV} (h : os[i]? = some o) : txtV os i + 4 * o.text.length ≤ datV os i ∧ datV os i + o.data.length ≤ imgLen os := by
  have hi := (List.getElem?_eq_some_iff.1 h).1
  have a1 := sumTo_mono (tlen os) (show i + 1 ≤ os.length from hi)
  have a2 := sumTo_mono (dlen os) (show i + 1 ≤ os.length from hi)
  simp only [sumTo, tlen_at h] at a1
  simp only [sumTo, dlen_at h] at a2
  unfold txtV datV imgLen base
  omega
/-- Relocations are done up to here. -/
structure RelSt (os : List ObjV) (i : Nat) (o : ObjV) (j : Nat) (T D : List Int) : Prop where
  st : (o.rels.take j).foldlM (stepR os i o) (o.text, o.data) = some (T, D)
  tl : T.length = o.text.length
  dl : D.length = o.data.length
  tu : ∀ k, U (T.getD k 0)
  sm : ∀ j' r, j ≤ j' → o.rels[j']? = some r → r.sect = 1 → T.getD r.at_.toNat 0 = o.text.getD r.at_.toNat 0
theorem rs_zero {os : List ObjV} {i : Nat} {o : ObjV} (hwf : o.wf) : RelSt os i o 0 o.text o.data := ⟨by simp, rfl, rfl, hwf.text, fun _ _ _ _ _ => rfl⟩
theorem fold_snoc {os : List ObjV} {i : Nat} {o : ObjV} {j : Nat} {T D : List Int} {r : RelV} (h : RelSt os i o j T D) (hr : o.rels[j]? = some r) : (o.rels.take (j + 1)).foldlM (stepR os i o) (o.text, o.data) = stepR os i o (T, D) r := by
  rw [List.take_add_one, hr, List.foldlM_append, h.st]
  show (some (T, D)).bind _ = _
  simp
theorem splice_len {α : Type} (L : List α) (off : Nat) (cs : List α) (h : off + cs.length ≤ L.length) : (splice L off cs).length = L.length := by
  simp [splice]; omega
theorem rs_data {os : List ObjV} {i : Nat} {o : ObjV} {j : Nat} {T D : List Int} {r : RelV} (h : RelSt os i o j T D) (hr : o.rels[j]? = some r) (h2 : r.sect = 2) (hat : r.at_.toNat + 4 ≤ o.data.length) : RelSt os i o (j + 1) T (splice D r.at_.toNat (bytesL [relVal os i o r])) := by
  refine ⟨?_, h.tl, ?_, h.tu, fun j' r' hj hr' => h.sm j' r' (by omega) hr'⟩
  · rw [fold_snoc h hr]
    unfold stepR
    rw [if_pos h2]
  · rw [splice_len _ _ _ (by rw [bytesL_length, h.dl]; exact hat), h.dl]
theorem rel_trans {a b c : Int × Int} (h : relLt a b) (g : relLt b c) : relLt a c := by unfold relLt at *; omega
theorem rising_lt {l : List RelV} (h : rising l) {j : Nat} : ∀ {k : Nat}, j < k → k < l.length → relLt (pairAt l j) (pairAt l k) := by
  intro k hjk hk
  induction k with
  | zero => omega
  | succ k ih =>
    have h1 := h (k + 1) hk
    by_cases e : j = k
    · subst e; exact h1
    · exact rel_trans (ih (by omega) (by omega)) h1
theorem rs_text {os : List ObjV} {i : Nat} {o : ObjV} {j : Nat} {T D : List Int} {r : RelV} (hok : objOk o) (h : RelSt os i o j T D) (hr : o.rels[j]? = some r) (h1 : r.sect = 1) {W : Int} (hp : patO r.kind (o.text.getD r.at_.toNat 0) (relVal os i o r) (addrV (txtV os i) (datV os i) r.sect r.at_) = some W) (hW : U W) (h0 : 0 ≤ r.at_) : RelSt os i o (j + 1) (T.set r.at_.toNat W) D := by
  refine ⟨?_, by rw [List.length_set, h.tl], h.dl, fun k => ?_, fun j' r' hj hr' hs => ?_⟩
  · rw [fold_snoc h hr]
    unfold stepR
    rw [if_neg (by omega), h.sm j r (Nat.le_refl _) hr h1, hp]
    rfl
  · have hu := h.tu k
    by_cases e : r.at_.toNat = k
    · subst e
      by_cases hl : r.at_.toNat < T.length
      · simpa [List.getD_eq_getElem?_getD, hl] using hW
      · rw [List.set_eq_of_length_le (by omega)]; exact hu
    · simpa [List.getD_eq_getElem?_getD, List.getElem?_set_ne e] using hu
  · have hk := (List.getElem?_eq_some_iff.1 hr').1
    have hlt := rising_lt hok.2.2.2.1 (show j < j' by omega) hk
    have e1 : pairAt o.rels j = (1, r.at_) := by unfold pairAt; rw [hr, ← h1]; rfl
    have e2 : pairAt o.rels j' = (1, r'.at_) := by unfold pairAt; rw [hr', ← hs]; rfl
    rw [e1, e2] at hlt
    have hne : r.at_.toNat ≠ r'.at_.toNat := by unfold relLt at hlt; dsimp only at hlt; omega
    rw [← h.sm j' r' (by omega) hr' hs]
    simp [List.getD_eq_getElem?_getD, List.getElem?_set_ne hne]
theorem rs_fail {os : List ObjV} {i : Nat} {o : ObjV} {j : Nat} {T D : List Int} {r : RelV} (h : RelSt os i o j T D) (hr : o.rels[j]? = some r) (h1 : r.sect = 1) (hp : patO r.kind (o.text.getD r.at_.toNat 0) (relVal os i o r) (addrV (txtV os i) (datV os i) r.sect r.at_) = none) : objR os i o = none := by
  have e := fold_snoc h hr
  have e2 : stepR os i o (T, D) r = none := by
    unfold stepR
    rw [if_neg (by omega), h.sm j r (Nat.le_refl _) hr h1, hp]
    rfl
  rw [e2] at e
  unfold objR
  rw [← List.take_append_drop (j + 1) o.rels, List.foldlM_append, e]
  rfl
theorem rs_end {os : List ObjV} {i : Nat} {o : ObjV} {n : Nat} {T D : List Int} (h : RelSt os i o n T D) (hn : o.rels.length = n) : objR os i o = some (T, D) := by
  have := h.st
  rw [← hn, List.take_length] at this
  exact this
/-- A list put in by parts. -/
theorem splice_snoc {α : Type} (L a b : List α) (t : Nat) (h : t + a.length + b.length ≤ L.length) : splice (splice L t a) (t + a.length) b = splice L t (a ++ b) := by
  have e1 : (L.take t).length = t := by rw [List.length_take]; omega
  have ht : (L.take t ++ (a ++ L.drop (t + a.length))).take (t + a.length) = L.take t ++ a := by
    rw [← List.append_assoc, List.take_append_of_le_length (by rw [List.length_append, e1]; omega), List.take_of_length_le (by rw [List.length_append, e1]; omega)]
  have hd : (L.take t ++ (a ++ L.drop (t + a.length))).drop (t + a.length + b.length) = L.drop (t + a.length + b.length) := by
    rw [← List.append_assoc, List.drop_append, List.drop_of_length_le (by rw [List.length_append, e1]; omega), List.length_append, e1, List.nil_append, List.drop_drop]
    congr 1
    omega
  unfold splice
  rw [ht, hd]
  simp [Nat.add_assoc]
theorem bytesL_app (a b : List Int) : bytesL (a ++ b) = bytesL a ++ bytesL b := by simp [bytesL]
theorem lwords_snoc (mem T : List Int) (t k : Nat) {x : Int} (hx : T[k]? = some x) (h : t + 4 * T.length ≤ mem.length) : splice (splice mem t (bytesL (T.take k))) (t + 4 * k) (bytesL [x]) = splice mem t (bytesL (T.take (k + 1))) := by
  have hk := (List.getElem?_eq_some_iff.1 hx).1
  have hl : (bytesL (T.take k)).length = 4 * k := by rw [bytesL_length, List.length_take]; omega
  rw [List.take_add_one, hx, bytesL_app, ← hl]
  exact splice_snoc _ _ _ _ (by rw [hl, bytesL_length]; simp; omega)
theorem splice_map {α β : Type} (f : α → β) (L : List α) (off : Nat) (cs : List α) : (splice L off cs).map f = splice (L.map f) off (cs.map f) := by simp [splice]
theorem byV_splice (L : List Int) (off : Nat) (cs : List Int) : byV (splice L off cs) = splice (byV L) off (byV cs) := splice_map _ _ _ _
theorem splice_app {α : Type} (L t : List α) (off : Nat) (cs : List α) (h : off + cs.length ≤ L.length) : splice (L ++ t) off cs = splice L off cs ++ t := by
  unfold splice
  rw [List.take_append_of_le_length (by omega), List.drop_append_of_le_length h]
  simp
theorem two_rows {w1 w2 w3 : World} {xs ys : List Value} {t1 t2 : TypeId} {A B : Option Addr} (k1 : Kp w1 w2) (k2 : Kp w2 w3) (h1 : xs ≠ [] → ∃ g, A = some ⟨g, 0, none⟩ ∧ w1.heap.size ≤ g ∧ RowB w2 g t1 xs) (h2 : ys ≠ [] → ∃ g, B = some ⟨g, 0, none⟩ ∧ w2.heap.size ≤ g ∧ RowB w3 g t2 ys) :
    ∃ TG DG, w1.heap.size ≤ TG ∧ w1.heap.size ≤ DG ∧ TG ≠ DG ∧ (xs ≠ [] → A = some ⟨TG, 0, none⟩ ∧ RowB w3 TG t1 xs) ∧ (ys ≠ [] → B = some ⟨DG, 0, none⟩ ∧ RowB w3 DG t2 ys) := by
  have s1 := k1.size
  have s2 := k2.size
  by_cases hx : xs = []
  · by_cases hy : ys = []
    · exact ⟨w3.heap.size, w3.heap.size + 1, by omega, by omega, by omega, fun h => absurd hx h, fun h => absurd hy h⟩
    · obtain ⟨g, e, hg, hr⟩ := h2 hy
      have := hr.lt
      exact ⟨w3.heap.size, g, by omega, by omega, by omega, fun h => absurd hx h, fun _ => ⟨e, hr⟩⟩
  · obtain ⟨g, e, hg, hr⟩ := h1 hx
    have hl := hr.lt
    by_cases hy : ys = []
    · exact ⟨g, w3.heap.size, by omega, by omega, by omega, fun _ => ⟨e, hr.kp k2⟩, fun h => absurd hy h⟩
    · obtain ⟨g', e', hg', hr'⟩ := h2 hy
      exact ⟨g, g', by omega, by omega, by omega, fun _ => ⟨e, hr.kp k2⟩, fun _ => ⟨e', hr'⟩⟩
def ClR (w : World) (ty : TypeId) (xs : List Value) (n : Nat) (e : Ending) (w' : World) : Prop := ∃ A c, e = .returned (.slice A n c) ∧ n ≤ c ∧ Kp w w' ∧ (xs ≠ [] → ∃ g, A = some ⟨g, 0, none⟩ ∧ w.heap.size ≤ g ∧ RowB w' g ty xs)
theorem cl_words {w : World} {A : Option Addr} {n c : Nat} (xs : List Int) (hl : xs.length = n) (hn : n ≤ 1000000) (h : WordsAt w A xs) (hA : A = none → n = 0 ∧ c = 0) :
    Calls Try.prog 33 #[.slice A n c] w (ClR w 44 (xs.map (Value.int .u32)) n) := by
  refine Calls.mono (CloneW_calls xs hl hn h hA) ?_
  rintro e w' ⟨A', c', h1, h2, h3⟩
  rw [List.length_map, hl] at h1 h2
  exact ⟨A', c', h1, h2, h3⟩
theorem cl_bytes {w : World} {A : Option Addr} {n c : Nat} (xs : List Int) (hl : xs.length = n) (hn : n ≤ 1000000) (h : BytesAt w A xs) (hA : A = none → n = 0 ∧ c = 0) :
    Calls Try.prog 34 #[.slice A n c] w (ClR w 5 (byV xs) n) := by
  refine Calls.mono (CloneB_calls xs hl hn h hA) ?_
  rintro e w' ⟨A', c', h1, h2, h3⟩
  rw [List.length_map, hl] at h1 h2
  exact ⟨A', c', h1, h2, h3⟩
theorem tgt_sym {os : List ObjV} {i k : Nat} {o : ObjV} {s : SymV} {t : Nat × Nat} (ho : os[i]? = some o) (hs : o.syms[k]? = some s) (ht : tgtV os i k s = some t) : ∃ s', symAt os t = some s' := by
  unfold tgtV at ht
  split at ht
  · obtain ⟨o', s', h1, h2, -, -⟩ := findV_some ht
    exact ⟨s', by unfold symAt; rw [h1]; exact h2⟩
  · injection ht with ht
    subst ht
    exact ⟨s, by unfold symAt; dsimp only; rw [ho]; exact hs⟩
theorem rel_tgt {w : World} {LK : Nat} {G : Option Addr} {n c OB PB : Nat} {os : List ObjV} (h : Lk w LK G n c OB PB os) {i : Nat} {o : ObjV} (ho : os[i]? = some o) {r : RelV} {sy : Nat} (hsy : r.sym = sy) (hlt : sy < o.syms.length) :
    ∃ (g c3 : Nat) (t : Nat × Nat) (s' : SymV), w.cell? ⟨OB, i, none⟩ = some (.slice (some ⟨g, 0, none⟩) o.syms.length c3) ∧ g < w.heap.size ∧ w.cell? ⟨g, sy * 2, none⟩ = some (.int .i64 t.1) ∧ w.cell? ⟨g, sy * 2 + 1, none⟩ = some (.int .i64 t.2) ∧ symAt os t = some s' ∧ relVal os i o r = (adrV os t + r.add) % 4294967296 := by
  obtain ⟨v, hv, A, c3, rfl, hr⟩ := h.tg i o ho
  obtain ⟨g, rfl, -, hg, hc⟩ := hr (by intro e; rw [e] at hlt; simp at hlt)
  have hs := List.getElem?_eq_getElem hlt
  obtain ⟨t, ht, q0, q1⟩ := hc sy _ hs
  obtain ⟨s', hs'⟩ := tgt_sym ho hs ht
  refine ⟨g, c3, t, s', hv, hg, q0, q1, hs', ?_⟩
  unfold relVal
  rw [hsy, Int.toNat_natCast, hs]
  simp only [Option.bind_some]
  rw [ht]
/-- Bytes copied into a row of bytes, a step of a region. -/
theorem step_put {ops : Array Oper} {o : Oper} {a : Act} {w : World} {K : Act → World → Prop} {Q : Exit → Act → World → Prop} {E : Prop} (hgd : o.guard = none) (d s : Operand)
    (ho : o.op = .call { callee := .builtin .copy, args := #[d, s], argTypes := #[26, 26] }) (dp sp : Option Addr) (n2 c2 sl sc : Nat) (hd : a.eval d = .slice dp n2 c2) (hs : a.eval s = .slice sp sl sc)
    (DG off : Nat) (xs cs : List Int) (tail : List Value) (hrow : w.heap[DG]? = some (.cells (byV xs ++ tail).toArray 5 (0, 0))) (hl : cs.length = sl) (hle : sl ≤ n2) (hfit : off + sl ≤ xs.length)
    (hdp : 0 < sl → dp = some ⟨DG, off, none⟩) (hsp : 0 < sl → ∃ SB, sp = some ⟨SB, 0, none⟩ ∧ RowB w SB 5 (byV cs))
    (h : ∀ w', w'.heap[DG]? = some (.cells (byV (splice xs off cs) ++ tail).toArray 5 (0, 0)) → Mod (fun k => k = DG) w w' → K (a.put o.dst (goInt sl)) w') :
    if Region.wanted o (yielded ops a.tmps) = true then Oper.wp Try.prog o a w K Q else E := by
  have hb : (byV cs).length = sl := by simp [byV, hl]
  refine step_copy_mod hgd d s _ _ ho 5 Try.underlying26 (by kernel_rfl) dp sp n2 c2 sl sc hd hs DG off (byV xs ++ tail) 5 hrow (byV cs) ?_ ?_ ?_ ?_ ?_
  · rw [hb]; exact (Nat.min_eq_left hle).symm
  · intro hpos
    rw [hb] at hpos
    obtain ⟨SB, rfl, hr⟩ := hsp hpos
    refine ⟨hdp hpos, _, rfl, fun j v hj => ?_⟩
    have e2 : (⟨SB, 0, none⟩ : Addr).add j = ⟨SB, j, none⟩ := by unfold Addr.add; split <;> simp_all
    rw [e2]
    exact hr.cell hj
  · rw [hb]; simp [byV]; omega
  · intro v hv
    simp only [byV, List.mem_map] at hv
    obtain ⟨x, _, rfl⟩ := hv
    rfl
  · intro w' hg' hm
    rw [splice_app _ _ _ _ (by rw [hb]; simp [byV]; omega), ← byV_splice] at hg'
    rw [hb]
    exact h w' hg' hm
theorem adr_p (a b c d : Int) : U (addrV a b c d) := by
  unfold addrV U
  split
  · omega
  · split <;> omega
/-- The same in a region that runs in order. -/
theorem wpList_put {ops : Array Oper} {rest : List Oper} {o : Oper} {a : Act} {w : World} {Q : Exit → Act → World → Prop} (hgd : o.guard = none) (d s : Operand)
    (ho : o.op = .call { callee := .builtin .copy, args := #[d, s], argTypes := #[26, 26] }) (dp sp : Option Addr) (n2 c2 sl sc : Nat) (hd : a.eval d = .slice dp n2 c2) (hs : a.eval s = .slice sp sl sc)
    (DG off : Nat) (xs cs : List Int) (tail : List Value) (hrow : w.heap[DG]? = some (.cells (byV xs ++ tail).toArray 5 (0, 0))) (hl : cs.length = sl) (hle : sl ≤ n2) (hfit : off + sl ≤ xs.length)
    (hdp : 0 < sl → dp = some ⟨DG, off, none⟩) (hsp : 0 < sl → ∃ SB, sp = some ⟨SB, 0, none⟩ ∧ RowB w SB 5 (byV cs))
    (h : ∀ w', w'.heap[DG]? = some (.cells (byV (splice xs off cs) ++ tail).toArray 5 (0, 0)) → Mod (fun k => k = DG) w w' → wpList Try.prog ops Q rest (a.put o.dst (goInt sl)) w') :
    wpList Try.prog ops Q (o :: rest) a w := by
  have hw : Region.wanted o (yielded ops a.tmps) = true := by simp [Region.wanted, hgd]
  have key := step_put (ops := ops) (K := wpList Try.prog ops Q rest) (Q := Q) (E := True) hgd d s ho dp sp n2 c2 sl sc hd hs DG off xs cs tail hrow hl hle hfit hdp hsp h
  rw [if_pos hw] at key
  unfold wpList
  rw [if_pos hw]
  exact Or.inl key
theorem wz {pt k m : Nat} (h : pt + 4 * k ≤ m) (hm : m ≤ 2097152) : IntKind.i64.wrap ((pt : Int) + IntKind.i64.wrap (4 * (k : Int))) = ((pt + 4 * k : Nat) : Int) := by
  have e1 : IntKind.i64.wrap (4 * (k : Int)) = 4 * (k : Int) := by rw [IntKind.wrap_i64]; omega
  rw [e1, IntKind.wrap_i64]
  omega
/-- Bytes copied into a row of bytes: what runs. -/
theorem run_put (w : World) (ty : TypeId) (dp sp : Option Addr) (n2 c2 sl sc DG off : Nat) (xs cs : List Int) (hrow : Blk w DG (byV xs).toArray 5) (hl : cs.length = sl) (hle : sl ≤ n2) (hfit : off + sl ≤ xs.length)
    (hdp : 0 < sl → dp = some ⟨DG, off, none⟩) (hsp : 0 < sl → ∃ SB, sp = some ⟨SB, 0, none⟩ ∧ RowB w SB 5 (byV cs)) :
    ∃ w', (Builtin.copy_ #[26, 26] ty #[.slice dp n2 c2, .slice sp sl sc]).run Try.prog w = .ok (goInt sl) w' ∧ Blk w' DG (byV (splice xs off cs)).toArray 5 ∧ Mod (fun k => k = DG) w w' := by
  have hb : (byV cs).length = sl := by simp [byV, hl]
  by_cases h0 : sl = 0
  · subst h0
    obtain rfl : cs = [] := List.eq_nil_of_length_eq_zero hl
    exact ⟨w, run_copy_none (P := Try.prog) w _ _ ty 5 dp sp n2 c2 0 sc Try.underlying26 (by kernel_rfl) (Nat.zero_min _), by simpa [splice] using hrow, Mod.refl _ _⟩
  · obtain rfl := hdp (by omega)
    obtain ⟨SB, rfl, hr⟩ := hsp (by omega)
    have hrun := run_copy_row (P := Try.prog) w 26 26 ty 5 DG off n2 c2 ⟨SB, 0, none⟩ sl sc (byV xs).toArray 5 (byV cs) Try.underlying26 (by kernel_rfl) hrow (by rw [hb]; exact (Nat.min_eq_left hle).symm) (fun j v hj => by
      have e2 : (⟨SB, 0, none⟩ : Addr).add j = ⟨SB, j, none⟩ := by unfold Addr.add; split <;> simp_all
      rw [e2]
      exact hr.cell hj) (by rw [hb]; simpa [byV] using hfit) (fun v hv => by
      simp only [byV, List.mem_map] at hv
      obtain ⟨x, _, rfl⟩ := hv
      rfl)
    rw [hb] at hrun
    refine ⟨_, hrun, ?_, mod_row _ _ _⟩
    rw [byV_splice]
    have := setRow_heap w DG (byV xs).toArray (((byV xs).toArray.toList.take off ++ byV cs ++ (byV xs).toArray.toList.drop (off + sl)).toArray) 5 (0, 0) hrow
    simpa [Blk, splice, hb] using this
end Go.Proofs.Ytnbooljaodkedaa
