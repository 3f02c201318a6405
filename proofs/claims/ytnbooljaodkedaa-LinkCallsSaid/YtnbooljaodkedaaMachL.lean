/- The bytes of words; up; a machine loaded; its words and place, walked. Conditions stand at each. -/
import Derived.Test.YtnbooljaodkedaaMachE
import Derived.Laws.MakeOwn
import Derived.Laws.CopyOwn
import Derived.Maps.Own
namespace Go.Proofs.Ytnbooljaodkedaa
open Go.RowKit Go.Maps Go.Proofs.Ytnbooljaodkedaa.PC Go.Proofs.Ytnbooljaodkedaa.PW
set_option linter.unusedVariables false
set_option linter.unusedSimpArgs false
theorem andNot15 (a : Nat) (ha : a < 2 ^ 40) : bits .andNot .i64 (a : Int) 15 = ((a / 16 * 16 : Nat) : Int) := by
  have e1 : BitVec.ofInt 64 (a : Int) = BitVec.ofNat 64 a := BitVec.ofInt_natCast _ _
  have e2 : (BitVec.ofNat 64 a &&& ~~~(BitVec.ofNat 64 15)).toNat = a / 16 * 16 := by
    have hb : BitVec.ofNat 64 a &&& ~~~(BitVec.ofNat 64 15) = BitVec.ofNat 64 (a / 16 * 16) := by
      refine BitVec.eq_of_getLsbD_eq fun i hi => ?_
      simp only [BitVec.getLsbD_and, BitVec.getLsbD_not, BitVec.getLsbD_ofNat, hi, decide_true, Bool.true_and]
      have e15 : (15 : Nat) = 2 ^ 4 - 1 := rfl
      have e16 : (16 : Nat) = 2 ^ 4 := rfl
      rw [e15, Nat.testBit_two_pow_sub_one, e16, Nat.testBit_mul_two_pow, Nat.testBit_div_two_pow]
      by_cases h : i < 4
      · simp [h, Nat.not_le.2 h]
      · rw [show i - 4 + 4 = i by omega]
        simp [h, Nat.not_lt.1 h]
    rw [hb, BitVec.toNat_ofNat, Nat.mod_eq_of_lt (by omega)]
  show IntKind.i64.wrap ((BitVec.ofInt 64 (a : Int) &&& ~~~(BitVec.ofInt 64 15)).toNat : Int) = _
  rw [e1, show BitVec.ofInt 64 15 = BitVec.ofNat 64 15 from rfl, e2, IntKind.wrap_i64]
  omega
def upV (n : Nat) : Nat := (n + 15) / 16 * 16
set_option maxHeartbeats 1000000 in
theorem up_calls (x : Int) (n : Nat) (hx : x = n) (hn : n ≤ 1000000000) (w : World) : Calls Try.prog 25 #[.int .i64 x] w fun e w' => (∃ r : Nat, e = .returned (.int .i64 r) ∧ r = upV n ∧ n ≤ r ∧ r ≤ n + 15) ∧ w' = w := by
  subst hx
  have ha : bits .andNot .i64 ((n : Int) + 15) 15 = ((upV n : Nat) : Int) := andNot15 (n + 15) (by omega)
  have hr : n ≤ upV n ∧ upV n ≤ n + 15 := by unfold upV; omega
  go_enter Try.func25, Try.ntmps25
  go_wp2
  go_ret
  exact ⟨⟨upV n, (by first | exact congrArg (fun z => Ending.returned (Value.int .i64 z)) ha | rfl), rfl, hr⟩, rfl⟩
/-- The bytes of words. -/
def bytesL (l : List Int) : List Int := l.flatMap fun v => [v % 256, v / 256 % 256, v / 65536 % 256, v / 16777216 % 256]
def byV (l : List Int) : List Value := l.map (Value.int .u8)
theorem bytesL_length (l : List Int) : (bytesL l).length = 4 * l.length := by
  induction l with
  | nil => rfl
  | cons a l ih => simp only [bytesL, List.flatMap_cons, List.length_append] at ih ⊢; rw [ih]; simp; omega
theorem bytesL_byte (l : List Int) : ∀ b ∈ bytesL l, Byte b := by
  intro b hb
  simp only [bytesL, List.mem_flatMap] at hb
  obtain ⟨v, _, hv⟩ := hb
  simp only [List.mem_cons, List.not_mem_nil, or_false] at hv
  unfold Byte
  rcases hv with rfl | rfl | rfl | rfl <;> omega
section
variable {P : Program} {ops : Array Oper} {rest : List Oper} {o : Oper} {a : Act} {w : World} {K : Act → World → Prop} {Q : Exit → Act → World → Prop} {E : Prop}
theorem wpList_pushm (hgd : o.guard = none) (s x : Operand) (t : TypeId) (ho : o.op = .call { callee := .builtin .append, args := #[s, x], argTypes := #[t, t] })
    (base : Nat) (e : TypeId) (size bytes m : Nat) (ht : P.underlying t = some (.slice e)) (hinfo : ∃ i z, P.info? e = some i ∧ i.zero = some z ∧ i.size = size ∧ i.bytes = bytes ∧ z.cells.size = size) (hsz : 0 < size) (hm : 0 < m)
    (v : Value) (n : Nat) (xs : List Value) (hs : a.eval s = v) (hown : w.ownsRow base e size v n xs)
    (B : Nat) (cs : Array Value) (ty : TypeId) (hx : a.eval x = .slice (some ⟨B, 0, none⟩) m m) (hb : w.heap[B]? = some (.cells cs ty)) (hl : cs.size = m * size) (h1 : ∀ u ∈ cs.toList, u.oneCell' = true)
    (hbytes : (n + m) * bytes ≤ 140737488355328) (hmax : n + m ≤ 140737488355328) (hbase : base ≤ w.heap.size)
    (h : ∀ g cap w', w'.ownsRow base e size (.slice (some ⟨g, 0, none⟩) (n + m) cap) (n + m) (xs ++ cs.toList) → w.grownBy w' v.ownBlock → (v.ownBlock = some g ∨ g = w.heap.size) → g < w'.heap.size → wpList P ops Q rest (a.put o.dst (.slice (some ⟨g, 0, none⟩) (n + m) cap)) w') :
    wpList P ops Q (o :: rest) a w := by
  obtain ⟨i, z, hi, hz, hsize, hby, hzs⟩ := hinfo
  exact wpList_append_lies w hgd s x t ho base e i z size bytes ht hi hz hsize hby hzs hsz v n xs hs hown ⟨B, 0, none⟩ m m cs.toList hx (by simpa using hl) (news_of hb) h1 (by omega) (by unfold maxLen; omega) hbytes hbase _ rfl h
end
set_option maxRecDepth 100000 in
theorem info_u8 : ∃ i z, Try.prog.info? 5 = some i ∧ i.zero = some z ∧ i.size = 1 ∧ i.bytes = 1 ∧ z.cells.size = 1 := ⟨_, _, rfl, rfl, rfl, rfl, rfl⟩
theorem U_shr {v : Int} (h : U v) : (0 ≤ v ∧ v ≤ 4294967295) := h
def rowBy (w : World) (base : Nat) (v : Value) (l : List Int) : Prop := w.ownsRow base 5 1 v l.length (byV l)
theorem bytes_snoc {w : World} {base k : Nat} {l : List Int} {g cap : Nat} {cs : List Value} (hk : k < l.length) (hcs : cs = byV [l.getD k 0 % 256, l.getD k 0 / 256 % 256, l.getD k 0 / 65536 % 256, l.getD k 0 / 16777216 % 256]) (h : w.ownsRow base 5 1 (.slice (some ⟨g, 0, none⟩) (4 * k + 4) cap) (4 * k + 4) (byV (bytesL (l.take k)) ++ cs)) :
    w.ownsRow base 5 1 (.slice (some ⟨g, 0, none⟩) (4 * k + 4) cap) (4 * (k + 1)) (byV (bytesL (l.take (k + 1)))) := by
  have e : l.take (k + 1) = l.take k ++ [l.getD k 0] := by
    rw [List.take_add_one, List.getD_eq_getElem?_getD, List.getElem?_eq_getElem hk]
    rfl
  rw [e]
  have e2 : byV (bytesL (l.take k ++ [l.getD k 0])) = byV (bytesL (l.take k)) ++ cs := by rw [hcs]; simp [bytesL, byV]
  rw [e2, show 4 * (k + 1) = 4 * k + 4 by omega]
  exact h
set_option maxRecDepth 100000 in
set_option maxHeartbeats 2000000 in
theorem Bytes_calls {w : World} (A : Option Addr) (c : Nat) (l : List Int) (hl : l.length ≤ 100000) (hu : ∀ i, U (l.getD i 0)) (hc : l.length ≤ c) (hA : l ≠ [] → ∃ I off, A = some ⟨I, off, none⟩ ∧ I < w.heap.size ∧ ∀ i, i < l.length → w.cell? ⟨I, off + i, none⟩ = some (.int .u32 (l.getD i 0))) :
    Calls Try.prog 15 #[.slice A l.length c] w fun e w' => ∃ v, e = .returned v ∧ Kp w w' ∧ rowBy w' w.heap.size v (bytesL l) := by
  replace hA := Aside.mk hA
  replace hu := Aside.mk hu
  generalize hm : l.length = m at *
  replace hm := Aside.mk hm
  go_enter Try.func15, Try.ntmps15
  go_wp2
  go_loopw [3, 8] (fun v i wr => ∃ k : Nat, k ≤ m ∧ i = .int .i64 k ∧ Kp w wr ∧ wr.ownsRow w.heap.size 5 1 v (4 * k) (byV (bytesL (l.take k)))) (fun _ i _ => m - (intOf i).toNat)
  case atStart => exact ⟨0, Nat.zero_le _, rfl, Kp.refl _, World.ownsRow_nil _ _ _ _⟩
  case round =>
    obtain ⟨k, hk, rfl, kp, hown⟩ := hrel
    by_cases hlt : k < m
    · have hml := hm.out
      obtain ⟨I, off, rfl, hI, hcell⟩ := hA.out (by intro e; rw [e] at hml; simp at hml; omega)
      have e1 := (kp.cell (p := ⟨I, off + k, none⟩) hI).trans (hcell k hlt)
      have uk := hu.out k
      have uk' := U_shr uk
      have s1 := kp.size
      obtain ⟨x, hx⟩ : ∃ x, Aside (l.getD k 0 = x) := ⟨_, ⟨rfl⟩⟩
      rw [hx.out] at e1 uk uk'
      replace hcell := Aside.mk hcell
      replace hlt' := Aside.mk (show k < l.length by omega)
      clear hml
      go_wp2_with ((at_builtin); (refine wpList_pushm rfl (.tmp 12) (.tmp 24) 26 rfl w.heap.size 5 1 1 4 Try.underlying26 info_u8 (by decide) (by decide) u3 (4 * k) (byV (bytesL (l.take k))) ?_ ?_ ?_ ?_ ?_ ?_ ?_ ?_ ?_ ?_ ?_ ?_ ?_); (rfl); (focus repeat (first | assumption | refine World.ownsRow.drew ?_ | refine World.ownsRow.alloc ?_ _)); (rotate_left 3); (rfl); (refine heap_new ?_); (rfl); (rfl); (simp [Value.oneCell']); (omega); (omega); (simp only [World.size_alloc]; omega); (intro gf capf wf hof hgf hgf' hltf); (have kpn := Aside.mk (show Kp w wf from Kp.grown (by repeat (first | exact Kp.refl _ | assumption | exact Dr.kp (by assumption) | refine Kp.drewN ?_ _ | refine Kp.drew ?_ | refine Kp.alloc ?_ _ | refine Kp.setCell ?_ (by first | exact Nat.le_refl _ | assumption | omega) _ | refine Kp.trans ?_ (by assumption) | refine Kp.trans ?_ (Dr.kp (by assumption)))) hgf (own_ge hown))); (have f1 := (kpn.out.cell (p := ⟨I, off + k, none⟩) hI).trans (hcell.out k hlt)))
      go_roundw
      case rel => exact ⟨k + 1, by omega, by go_num, kpn.out, bytes_snoc hlt'.out (by rw [hx.out]; simp [byV]; omega) hof⟩
      case measure => simp [intOf]; omega
    · obtain rfl : k = m := by omega
      go_wp2
      go_ret
      refine ⟨_, rfl, kp, ?_⟩
      unfold rowBy
      rw [bytesL_length, hm.out]
      rw [List.take_of_length_le (by have := hm.out; omega)] at hown
      exact hown
/-- The memory that is loaded. -/
def loadM (l : List Int) (top : Nat) : List Int := l ++ List.replicate (top - l.length) 0
def loadS (entry : Int) (l : List Int) (floor top : Nat) : MS := { mem := loadM l top, x := ((List.replicate 32 0).set 2 (top : Int)).set 27 (floor : Int), f := List.replicate 32 0, pc := entry, state := 0, code := 0 }
theorem loadM_length (l : List Int) (top : Nat) (h : l.length ≤ top) : (loadM l top).length = top := by simp [loadM]; omega
theorem loadS_ok {entry : Int} {l : List Int} {floor top : Nat} (he : U entry) (hb : ∀ b ∈ l, Byte b) (h : l.length ≤ top) (hf : floor ≤ 4294967295) (ht : top ≤ 2097152) : (loadS entry l floor top).ok := by
  refine ⟨rfl, rfl, ?_, ?_, ?_, he, (by unfold U; exact ⟨Int.le_refl _, by decide⟩ : U 0), by rw [show (loadS entry l floor top).mem = loadM l top from rfl, loadM_length l top h]; exact ht⟩
  · intro v hv
    rcases List.mem_or_eq_of_mem_set hv with hv | rfl
    · rcases List.mem_or_eq_of_mem_set hv with hv | rfl
      · have := List.eq_of_mem_replicate hv
        subst this
        exact ⟨by decide, by decide⟩
      · exact ⟨by omega, by omega⟩
    · exact ⟨by omega, by omega⟩
  · intro v hv
    have := List.eq_of_mem_replicate hv
    subst this
    exact ⟨by decide, by decide⟩
  · intro v hv
    rcases List.mem_append.1 hv with hv | hv
    · exact hb v hv
    · have := List.eq_of_mem_replicate hv
      subst this
      exact ⟨by decide, by decide⟩
set_option maxRecDepth 100000 in
theorem made_u8 (T : Nat) (hT : T ≤ 2097152) (W : World) : (Instr.makeSlice 26 (.int .i64 (T : Int)) (.int .i64 (T : Int))).run Try.prog W = .ok (.slice (some ⟨W.heap.size, 0, none⟩) T T) (W.alloc (.cells (memC (List.replicate T 0)) 5)) := by
  obtain ⟨i, hi, hz, h1, h2⟩ : ∃ i, Try.prog.info? 5 = some i ∧ i.zero = some (.int .u8 0) ∧ i.size = 1 ∧ i.bytes = 1 := ⟨_, rfl, rfl, rfl, rfl⟩
  have hr := run_make (P := Try.prog) W 26 5 i _ Try.underlying26 hi hz .i64 .i64 T T (by omega) (by omega) (by rw [h2]; omega) (by omega)
  rw [hr]
  have e : madeCells (Value.int .u8 0).cells ((T : Int).toNat * i.size) = memC (List.replicate T 0) := by
    rw [h1]
    apply Array.ext
    · simp [madeCells, memC]
    · intro j a b
      simp [madeCells, memC, Value.cells, Nat.mod_one]
  rw [e]
  simp
section
variable {P : Program} {ops : Array Oper} {rest : List Oper} {o : Oper} {a : Act} {w : World} {K : Act → World → Prop} {Q : Exit → Act → World → Prop} {E : Prop}
theorem mod_row (w : World) (g : Nat) (cs : Array Value) : Mod (fun k => k = g) w (w.setRow g cs) :=
  ⟨rfl, rfl, rfl, by simp [World.setRow], fun k hk hs => setRow_other w g k cs hs⟩
/-- A copy into a row, a step of a region that draws its order. -/
theorem step_copy_mod (hgd : o.guard = none) (d s : Operand) (dT sT : TypeId)
    (ho : o.op = .call { callee := .builtin .copy, args := #[d, s], argTypes := #[dT, sT] }) (elem : TypeId) (hu : P.underlying dT = some (.slice elem)) (hsz : (P.info? elem).map (·.size) = some 1)
    (dp sp : Option Addr) (dLen dCap sLen sCap : Nat) (hd : a.eval d = .slice dp dLen dCap) (hs : a.eval s = .slice sp sLen sCap)
    (g off : Nat) (cur : List Value) (t : TypeId) (hg : w.heap[g]? = some (.cells cur.toArray t (0, 0))) (cs : List Value) (hn : cs.length = Nat.min sLen dLen)
    (hpos : 0 < cs.length → dp = some ⟨g, off, none⟩ ∧ ∃ ad, sp = some ad ∧ ∀ j v, cs[j]? = some v → w.cell? (ad.add j) = some v)
    (hfit : off + cs.length ≤ cur.length) (h1 : ∀ v ∈ cs, v.oneCell' = true)
    (h : ∀ w', w'.heap[g]? = some (.cells (splice cur off cs).toArray t (0, 0)) → Mod (fun k => k = g) w w' → K (a.put o.dst (goInt cs.length)) w') :
    if Region.wanted o (yielded ops a.tmps) = true then Oper.wp P o a w K Q else E := by
  have hw : Region.wanted o (yielded ops a.tmps) = true := by simp [Region.wanted, hgd]
  rw [if_pos hw]
  by_cases h0 : cs.length = 0
  · obtain rfl : cs = [] := List.eq_nil_of_length_eq_zero h0
    have hrun := run_copy_none (P := P) w dT sT o.type elem dp sp dLen dCap sLen sCap hu hsz (by simpa using hn.symm)
    unfold Oper.wp
    simp [execOp, ho, resolve, invoke, builtin, hd, hs, hrun, Result.andThen]
    exact h w (show _ = _ by simpa [splice] using hg) (Mod.refl _ _)
  · obtain ⟨rfl, ad, rfl, hsrc⟩ := hpos (by omega)
    have hrun := run_copy_row (P := P) w dT sT o.type elem g off dLen dCap ad sLen sCap cur.toArray t cs hu hsz hg hn hsrc (by simpa using hfit) h1
    unfold Oper.wp
    simp [execOp, ho, resolve, invoke, builtin, hd, hs, hrun, Result.andThen]
    exact h _ (show _ = _ by simpa [splice] using setRow_heap w g _ _ t _ hg) (mod_row _ _ _)
end
theorem splice_load (l : List Int) (top : Nat) : (splice ((List.replicate top (0 : Int)).map (Value.int .u8)) 0 (byV l)).toArray = memC (loadM l top) := by
  simp [splice, byV, memC, loadM]
theorem step_load {ops : Array Oper} {o : Oper} {a : Act} {w : World} {K : Act → World → Prop} {Q : Exit → Act → World → Prop} {E : Prop} (hgd : o.guard = none) (d s : Operand)
    (ho : o.op = .call { callee := .builtin .copy, args := #[d, s], argTypes := #[26, 26] }) {A : Option Addr} {n c B top : Nat} {l : List Int} (hd : a.eval d = .slice (some ⟨B, 0, none⟩) top top) (hs : a.eval s = .slice A n c)
    (hg : Blk w B (memC (List.replicate top 0)) 5) (hn : n = l.length) (hA : 0 < n → ∃ g, A = some ⟨g, 0, none⟩ ∧ ∀ j x, (byV l)[j]? = some x → w.cell? ⟨g, j, none⟩ = some x) (ht : n ≤ top)
    (h : ∀ w', Blk w' B (memC (loadM l top)) 5 → Mod (fun k => k = B) w w' → K (a.put o.dst (goInt (byV l).length)) w') :
    if Region.wanted o (yielded ops a.tmps) = true then Oper.wp Try.prog o a w K Q else E := by
  have hl : (byV l).length = n := by simp [byV, hn]
  refine step_copy_mod hgd d s _ _ ho 5 Try.underlying26 (by kernel_rfl) _ A top top n c hd hs B 0 ((List.replicate top (0 : Int)).map (Value.int .u8)) 5 hg (byV l) ?_ ?_ ?_ ?_ ?_
  · rw [hl]; exact (Nat.min_eq_left ht).symm
  · intro hpos
    obtain ⟨g, rfl, e⟩ := hA (by omega)
    refine ⟨rfl, _, rfl, fun j v hj => ?_⟩
    have e2 : (⟨g, 0, none⟩ : Addr).add j = ⟨g, j, none⟩ := by unfold Addr.add; split <;> simp_all
    rw [e2]
    exact e j v hj
  · simp; omega
  · intro v hv
    simp only [byV, List.mem_map] at hv
    obtain ⟨x, _, rfl⟩ := hv
    rfl
  · intro w' hg' hm
    rw [splice_load] at hg'
    exact h w' hg' hm
def zeroS (entry : Int) (top : Nat) : MS := { mem := List.replicate top 0, x := List.replicate 32 0, f := List.replicate 32 0, pc := entry, state := 0, code := 0 }
theorem zeroS_ok {entry : Int} {top : Nat} (he : U entry) (ht : top ≤ 2097152) : (zeroS entry top).ok := by
  have h := loadS_ok (l := []) (floor := 0) (top := top) he (by simp) (by simp) (by decide) ht
  exact ⟨rfl, rfl, fun v hv => by rw [List.eq_of_mem_replicate hv]; exact (by unfold U; exact ⟨Int.le_refl _, by decide⟩ : U 0), h.uf, fun v hv => by rw [List.eq_of_mem_replicate hv]; exact ⟨by decide, by decide⟩, he, h.uc, by simp [zeroS]; exact ht⟩
structure Made (w wx : World) (M B K : Nat) (entry : Int) (top : Nat) (im : Array Value) : Prop where
  gm : w.heap.size ≤ M
  gb : w.heap.size ≤ B
  gk : w.heap.size ≤ K
  kp : Kp w wx
  m : Blk wx M ((zeroS entry top).cells B K) 87
  b : Blk wx B (memC (List.replicate top 0)) 5
  k : wx.ownsMap Try.prog 44 RI K 0 (.map [])
  nMB : M ≠ B
  nMK : M ≠ K
  nBK : B ≠ K
  im : Blk wx w.heap.size im 28
  nm : w.heap.size ≠ M
  nb : w.heap.size ≠ B
theorem zero_cells (entry : Int) (top B K : Nat) : ((Try.zeroCells87.setIfInBounds 0 (.slice (some ⟨B, 0, none⟩) top top)).setIfInBounds 65 (.int .u32 entry)).setIfInBounds 68 (.map (some K)) = (zeroS entry top).cells B K := by
  have e : (zeroS entry top).head B = .slice (some ⟨B, 0, none⟩) top top := by simp [zeroS, MS.head]
  unfold MS.cells MS.cellsL
  rw [e]
  rfl
theorem sz1 (w : World) (o : Obj) : (w.alloc o).heap.size = w.heap.size + 1 := World.size_alloc _ _
theorem made_1 (w : World) (entry : Int) (top : Nat) (im mc : Array Value) (hmc : mc = (zeroS entry top).cells (w.heap.size + 1 + 1) (w.heap.size + 1)) :
    Made w ((((w.alloc (.cells im 28)).alloc (.map #[] 0)).alloc (.cells (memC (List.replicate top 0)) 5)).alloc (.cells mc 87)).drew (w.heap.size + 1 + 1 + 1) (w.heap.size + 1 + 1) (w.heap.size + 1) entry top im := by
  subst hmc
  refine ⟨by omega, by omega, by omega, ((((Kp.refl w).alloc _).alloc _).alloc _).alloc _ |>.drew, ?_, ?_, ?_, by omega, by omega, by omega, ?_, by omega, by omega⟩
  · have h := Blk.new (((w.alloc (.cells im 28)).alloc (.map #[] 0)).alloc (.cells (memC (List.replicate top 0)) 5)) ((zeroS entry top).cells (w.heap.size + 1 + 1) (w.heap.size + 1)) 87
    rw [sz1, sz1, sz1] at h
    exact h.kp (Kp.refl _).drew
  · have h := Blk.new ((w.alloc (.cells im 28)).alloc (.map #[] 0)) (memC (List.replicate top 0)) 5
    rw [sz1, sz1] at h
    exact h.kp ((Kp.refl _).alloc _).drew
  · have h := World.ownsMap_made (H := Value) (w.alloc (.cells im 28)) Try.prog 44 RI
    rw [sz1] at h
    exact own_kp h (((Kp.refl _).alloc _).alloc _).drew
  · exact (Blk.new w im 28).kp ((((Kp.refl _).alloc _).alloc _).alloc _).drew
theorem made_2 (w : World) (entry : Int) (top : Nat) (im mc : Array Value) (hmc : mc = (zeroS entry top).cells (w.heap.size + 1) (w.heap.size + 1 + 1)) :
    Made w ((((w.alloc (.cells im 28)).alloc (.cells (memC (List.replicate top 0)) 5)).alloc (.map #[] 0)).alloc (.cells mc 87)).drew (w.heap.size + 1 + 1 + 1) (w.heap.size + 1) (w.heap.size + 1 + 1) entry top im := by
  subst hmc
  refine ⟨by omega, by omega, by omega, ((((Kp.refl w).alloc _).alloc _).alloc _).alloc _ |>.drew, ?_, ?_, ?_, by omega, by omega, by omega, ?_, by omega, by omega⟩
  · have h := Blk.new (((w.alloc (.cells im 28)).alloc (.cells (memC (List.replicate top 0)) 5)).alloc (.map #[] 0)) ((zeroS entry top).cells (w.heap.size + 1) (w.heap.size + 1 + 1)) 87
    rw [sz1, sz1, sz1] at h
    exact h.kp (Kp.refl _).drew
  · have h := Blk.new (w.alloc (.cells im 28)) (memC (List.replicate top 0)) 5
    rw [sz1] at h
    exact h.kp (((Kp.refl _).alloc _).alloc _).drew
  · have h := World.ownsMap_made (H := Value) ((w.alloc (.cells im 28)).alloc (.cells (memC (List.replicate top 0)) 5)) Try.prog 44 RI
    rw [sz1, sz1] at h
    exact own_kp h ((Kp.refl _).alloc _).drew
  · exact (Blk.new w im 28).kp ((((Kp.refl _).alloc _).alloc _).alloc _).drew
theorem load_cells (entry : Int) (l : List Int) (floor top B K : Nat) (hl : l.length ≤ top) : (((zeroS entry top).cells B K).setIfInBounds 3 (.int .u32 (top : Int))).setIfInBounds 28 (.int .u32 (floor : Int)) = (loadS entry l floor top).cells B K := by
  have e : (zeroS entry top).head B = .slice (some ⟨B, 0, none⟩) top top := by simp [zeroS, MS.head]
  have e2 : (loadS entry l floor top).head B = .slice (some ⟨B, 0, none⟩) top top := by
    unfold MS.head
    rw [show (loadS entry l floor top).mem = loadM l top from rfl, loadM_length l top hl]
  unfold MS.cells MS.cellsL
  rw [e, e2]
  rfl
theorem load_done {w wx wc : World} {M B K : Nat} {entry : Int} {l : List Int} {floor top : Nat} {im : Array Value} (h : Made w wx M B K entry top im) (hm : Mod (fun k => k = B) wx wc) (hb : Blk wc B (memC (loadM l top)) 5) (hM : Blk wc M ((zeroS entry top).cells B K) 87)
    (he : U entry) (hby : ∀ b ∈ l, Byte b) (hl : l.length ≤ top) (hf : floor ≤ 4294967295) (ht : top ≤ 2097152) :
    Kp w (((wc.setCell ⟨M, 3, none⟩ (.int .u32 (top : Int))).setCell ⟨M, 28, none⟩ (.int .u32 (floor : Int))).drew) ∧ Mac (((wc.setCell ⟨M, 3, none⟩ (.int .u32 (top : Int))).setCell ⟨M, 28, none⟩ (.int .u32 (floor : Int))).drew) M B K (loadS entry l floor top) 0 := by
  have h1 := h.gm
  have h2 := h.gb
  have h3 := h.gk
  have m : Mod (fun k => k = B ∨ k = M) wx (((wc.setCell ⟨M, 3, none⟩ (.int .u32 (top : Int))).setCell ⟨M, 28, none⟩ (.int .u32 (floor : Int))).drew) :=
    (((hm.mono (fun k _ e => Or.inl e) : Mod (fun k => k = B ∨ k = M) wx wc).setCell (p := ⟨M, 3, none⟩) (Or.inr rfl) _).setCell (p := ⟨M, 28, none⟩) (Or.inr rfl) _).drew
  refine ⟨(h.kp.mod.trans (S := fun k => k = B ∨ k = M) (h.kp.mod.trans m |> fun _ => m)).toKp (fun k e => by rcases e with e | e <;> omega), ⟨?_, ?_, ⟨_, own_mod h.k m (fun e => ?_), decD_empty⟩, h.nMB, h.nMK, h.nBK, loadS_ok he hby hl hf ht⟩⟩
  · have g := ((hM.set (i := 3) (.int .u32 (top : Int))).set (i := 28) (.int .u32 (floor : Int))).kp ((Kp.refl _).drew)
    rw [load_cells entry l floor top B K hl] at g
    exact g
  · exact ((hb.far (fun e => h.nMB e.symm) _).far (fun e => h.nMB e.symm) _).kp ((Kp.refl _).drew)
  · rcases e with e | e
    · exact h.nBK e.symm
    · exact h.nMK e.symm
set_option maxRecDepth 100000 in
set_option maxHeartbeats 4000000 in
theorem Load_calls {w : World} {base : Nat} {v : Value} {l : List Int} (entry : Int) (stack : Nat) (hv : rowBy w base v l) (hb : ∀ b ∈ l, Byte b) (he : U entry) (hs : stack ≤ 2097152) (ht : upV (upV l.length + stack) ≤ 2097152) (hl : l.length ≤ 2097152) :
    Calls Try.prog 13 #[.agg #[.int .i64 entry, v], .int .i64 stack] w fun e w' => ∃ M B K, e = .returned (.tuple #[.pointer (some ⟨M, 0, none⟩), .int .i64 0]) ∧ (w.heap.size ≤ M ∧ w.heap.size ≤ B ∧ w.heap.size ≤ K) ∧ Kp w w' ∧ Mac w' M B K (loadS entry l (upV l.length) (upV (upV l.length + stack))) 0 := by
  have hmm := @run_makeMap Try.prog
  have he' := U_shr he
  obtain ⟨A, n, c, rfl, hn, hA⟩ : ∃ A n c, v = .slice A n c ∧ n = l.length ∧ (0 < n → ∃ g, A = some ⟨g, 0, none⟩ ∧ g < w.heap.size ∧ ∀ j x, (byV l)[j]? = some x → w.cell? ⟨g, j, none⟩ = some x) := by
    rcases hv.2 with ⟨h1, h2⟩ | ⟨g, cap, cur, h1, _, h3, _, _, h6, h7⟩
    · exact ⟨_, _, _, h1, h2.symm, fun h => absurd h (by decide)⟩
    · refine ⟨_, _, _, h1, rfl, fun _ => ⟨g, rfl, (Array.getElem?_eq_some_iff.1 h3).1, fun j x hx => ?_⟩⟩
      rw [← h7, List.getElem?_take] at hx
      split at hx
      · have : cur[j]? = some x := by simpa using hx
        simp [World.cell?, h3, this]
      · cases hx
  replace hv := Aside.mk hv
  replace hb := Aside.mk hb
  replace hn := Aside.mk hn
  replace hA := Aside.mk hA
  have hnl : n ≤ 2097152 := by have := hn.out; omega
  replace ht : Aside (upV (upV n + stack) ≤ 2097152) := ⟨by rw [hn.out]; exact ht⟩
  clear hl
  have bI := Aside.mk (Blk.new w #[.int .i64 entry, .slice A n c] 28)
  have kI : Aside (Kp w (w.alloc (.cells #[.int .i64 entry, .slice A n c] 28))) := ⟨(Kp.refl w).alloc _⟩
  go_enter Try.func13, Try.ntmps13
  go_wp2_with fail
  refine Calls.mono (up_calls _ n rfl (by omega) _) ?_
  rintro e w1 ⟨⟨r1, rfl, hr1, b1, b2⟩, rfl⟩
  replace hr1 := Aside.mk hr1
  go_wp2_with fail
  refine Calls.mono (up_calls _ (r1 + stack) (by omega) (by omega) _) ?_
  rintro e w1 ⟨⟨r2, rfl, hr2, b3, b4⟩, rfl⟩
  have b5 : r2 ≤ 2097152 := by rw [hr2, hr1.out]; exact ht.out
  replace hr2 := Aside.mk hr2
  have hmk := made_u8 r2 b5
  go_upto_region 7 with fail
  go_cut [8] (fun m wx => ∃ M B K, m = .pointer (some ⟨M, 0, none⟩) ∧ Made w wx M B K entry r2 #[.int .i64 entry, .slice A n c])
  case first =>
    go_region
    · go_wp2_with fail
      go_meet
      first | exact ⟨_, _, _, rfl, made_1 w entry r2 _ _ (zero_cells entry r2 _ _)⟩ | exact ⟨_, _, _, rfl, made_2 w entry r2 _ _ (zero_cells entry r2 _ _)⟩
    · go_wp2_with fail
      go_meet
      first | exact ⟨_, _, _, rfl, made_1 w entry r2 _ _ (zero_cells entry r2 _ _)⟩ | exact ⟨_, _, _, rfl, made_2 w entry r2 _ _ (zero_cells entry r2 _ _)⟩
  case rest =>
    obtain ⟨M, B, K, rfl, hM⟩ := hcut
    have zk := zeroS_ok he b5
    have hlM := hM.m.lt
    have hlI := hM.im.lt
    have i1 := hM.im.cell 1
    have m0 := (hM.m.cell 0).trans cells_0
    have eh : (zeroS entry r2).head B = .slice (some ⟨B, 0, none⟩) r2 r2 := by simp [zeroS, MS.head]
    rw [eh] at m0
    simp at i1
    have hMm := Aside.mk hM
    have hA9 : ∀ W, Kp w W → 0 < n → ∃ g, A = some ⟨g, 0, none⟩ ∧ ∀ j x, (byV l)[j]? = some x → W.cell? ⟨g, j, none⟩ = some x := by
      intro W hk h0
      obtain ⟨g, e1, e2, e3⟩ := hA.out h0
      exact ⟨g, e1, fun j x hx => (hk.cell (p := ⟨g, j, none⟩) e2).trans (e3 j x hx)⟩
    clear hM hmk hmm hs eh
    replace zk := Aside.mk zk
    replace kI := Aside.mk kI
    go_upto_region 8 with fail
    go_cut [] (fun wx => Mod (fun k => k = B) wc wx ∧ Blk wx B (memC (loadM l r2)) 5)
    case first =>
      go_region_law ((refine step_load rfl (.tmp 46) (.tmp 48) rfl (top := r2) (l := l) rfl rfl (hMm.out.b.kp (by repeat (first | exact Kp.refl _ | assumption | exact Dr.kp (by assumption) | refine Kp.drewN ?_ _ | refine Kp.drew ?_ | refine Kp.alloc ?_ _ | refine Kp.setCell ?_ (by first | exact Nat.le_refl _ | assumption | omega) _ | refine Kp.trans ?_ (by assumption) | refine Kp.trans ?_ (Dr.kp (by assumption))))) hn.out (hA9 wc.drew (hMm.out.kp.drew)) (by omega) ?_); (intro w9 hg9 hm9))
      all_goals
        go_wp2_with fail
        go_meet
        exact ⟨((Mod.refl (fun k => k = B) _).drew).trans hm9, hg9⟩
    case rest =>
      obtain ⟨hm9, hb9⟩ := hcut
      have hbM := hm9.blk hMm.out.m (fun e => hMm.out.nMB e)
      have lM := hbM.lt
      have c3 := (hbM.cell 3).trans (cells_x zk.out (r := 2) (by decide))
      have c28 := (hbM.cell 28).trans (cells_x zk.out (r := 27) (by decide))
      have f3 := hbM.frozen 3
      have f28 := hbM.frozen 28
      replace hm9 := Aside.mk hm9
      replace hb9 := Aside.mk hb9
      replace hbM := Aside.mk hbM
      clear i1 m0 hlM hlI hA9
      go_wp2_with fail
      go_region
      go_wp2
      go_ret2
      have hd := load_done (floor := r1) hMm.out hm9.out hb9.out hbM.out he hb.out (by have := hn.out; omega) (by omega) b5
      have q1 := hr1.out
      have q2 := hr2.out
      rw [← hn.out, ← q1, ← q2]
      exact ⟨M, B, K, rfl, ⟨hMm.out.gm, hMm.out.gb, hMm.out.gk⟩, hd.1, hd.2⟩
end Go.Proofs.Ytnbooljaodkedaa
