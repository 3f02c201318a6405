/- LinkWords: by value. No condition. -/
import Derived.Test.YtnbooljaodkedaaLnkWd
namespace Go.Proofs.Ytnbooljaodkedaa
open Go.RowKit Go.Proofs.Ytnbooljaodkedaa.PC Go.Proofs.Ytnbooljaodkedaa.PW
set_option linter.unusedVariables false
set_option linter.unusedSimpArgs false
theorem flat_getG {α β : Type} {cs : α → List β} {z : Nat} (hz : ∀ a, (cs a).length = z) : ∀ (l : List α) (i j : Nat), j < z → (l.flatMap cs)[i * z + j]? = (l[i]?).bind fun a => (cs a)[j]?
  | [], i, j, _ => by simp
  | a :: l, 0, j, hj => by
    rw [List.flatMap_cons, Nat.zero_mul, Nat.zero_add, List.getElem?_append_left (by rw [hz]; exact hj)]
    rfl
  | a :: l, i + 1, j, hj => by
    rw [List.flatMap_cons, List.getElem?_append_right (by rw [hz, Nat.succ_mul]; omega), hz, show (i + 1) * z + j - z = i * z + j by rw [Nat.succ_mul]; omega]
    exact flat_getG hz l i j hj
theorem bytesL_same {l l' : List Int} {k : Nat} (h : l[k / 4]? = l'[k / 4]?) : (bytesL l)[k]? = (bytesL l')[k]? := by
  have hm : k % 4 < 4 := by omega
  have key : ∀ m : List Int, (bytesL m)[k / 4 * 4 + k % 4]? = (m[k / 4]?).bind fun v => ([v % 256, v / 256 % 256, v / 65536 % 256, v / 16777216 % 256] : List Int)[k % 4]? := fun m => flat_getG (z := 4) (fun v => rfl) m _ _ hm
  have e : k = k / 4 * 4 + k % 4 := by omega
  have a1 := key l
  have a2 := key l'
  rw [← e] at a1 a2
  rw [a1, a2, h]
/-- Where a relocation's bytes begin. -/
def fromV (p : Nat) (r : RelV) : Int := if p = 1 then 4 * r.at_ else r.at_
/-- Some relocation is of this byte. -/
def hitB (p : Nat) (l : List RelV) (k : Nat) : Bool := l.any fun r => decide (r.sect = (p : Int) ∧ fromV p r ≤ k ∧ (k : Int) < fromV p r + 4)
def bytesO (p : Nat) (o : ObjV) : List Int := if p = 1 then bytesL o.text else o.data
def placeO (p : Nat) (os : List ObjV) (i : Nat) : Nat := if p = 1 then txtV os i else datV os i
theorem hit_snoc {p : Nat} {l : List RelV} {j : Nat} {r : RelV} (h : l[j]? = some r) (k : Nat) : hitB p (l.take (j + 1)) k = (hitB p (l.take j) k || decide (r.sect = (p : Int) ∧ fromV p r ≤ k ∧ (k : Int) < fromV p r + 4)) := by
  unfold hitB
  rw [List.take_add_one, h]
  simp
theorem words_law {os : List ObjV} {i : Nat} {o : ObjV} {T D mem : List Int} (hp : PutAt os i o T D mem) (hk : ObjKept o (T, D)) {p : Nat} (h12 : p = 1 ∨ p = 2) {k : Nat} (hkl : k < (bytesO p o).length) (h : hitB p o.rels k = false) : mem[placeO p os i + k]? = (bytesO p o)[k]? := by
  have hno : ∀ r ∈ o.rels, ¬(r.sect = (p : Int) ∧ fromV p r ≤ k ∧ (k : Int) < fromV p r + 4) := by
    intro r hr hh
    have : hitB p o.rels k = true := List.any_eq_true.2 ⟨r, hr, decide_eq_true hh⟩
    rw [h] at this
    cases this
  rcases h12 with rfl | rfl
  · have hkl' : k < (bytesL o.text).length := hkl
    rw [bytesL_length] at hkl'
    show mem[txtV os i + k]? = (bytesL o.text)[k]?
    rw [hp.txt k (by rw [hp.tl]; exact hkl')]
    refine bytesL_same (hk.2.2.1 (k / 4) (fun r hr hs e => hno r hr ⟨hs, ?_⟩))
    show (4 * r.at_ ≤ k ∧ (k : Int) < 4 * r.at_ + 4)
    omega
  · show mem[datV os i + k]? = o.data[k]?
    rw [hp.dat k (by rw [hp.dl]; exact hkl)]
    exact hk.2.2.2 k (fun r hr hs hh => hno r hr ⟨hs, hh⟩)
theorem place_next {os : List ObjV} {i : Nat} {o : ObjV} (ho : os[i]? = some o) {p : Nat} (h12 : p = 1 ∨ p = 2) : placeO p os (i + 1) = placeO p os i + (bytesO p o).length := by
  rcases h12 with rfl | rfl
  · show txtV os (i + 1) = txtV os i + (bytesL o.text).length
    rw [txt_next, tlen_at ho, bytesL_length]
  · show datV os (i + 1) = datV os i + o.data.length
    rw [dat_next, dlen_at ho]
theorem place_fit {os : List ObjV} {i : Nat} {o : ObjV} (ho : os[i]? = some o) {p : Nat} (h12 : p = 1 ∨ p = 2) : placeO p os i + (bytesO p o).length ≤ imgLen os := by
  obtain ⟨f1, f2⟩ := txt_fit ho
  rcases h12 with rfl | rfl
  · show txtV os i + (bytesL o.text).length ≤ _
    rw [bytesL_length]
    omega
  · exact f2
/-- A relocation's bytes lie within. -/
theorem from_fit {o : ObjV} (hok : objOk o) {r : RelV} (hr : r ∈ o.rels) {p : Nat} (h12 : p = 1 ∨ p = 2) (hs : r.sect = (p : Int)) : 0 ≤ fromV p r ∧ fromV p r + 4 ≤ (bytesO p o).length ∧ (r.at_ : Int) ≤ 65536 := by
  have h := hok.2.2.2.2 r hr
  have hsz := hok.1
  rcases h12 with rfl | rfl
  · rcases h.2 with ⟨e, _⟩ | ⟨_, a0, a1, _⟩
    · rw [e] at hs; exact absurd hs (by decide)
    · show 0 ≤ 4 * r.at_ ∧ 4 * r.at_ + 4 ≤ ((bytesL o.text).length : Int) ∧ _
      rw [bytesL_length]
      omega
  · rcases h.2 with ⟨_, _, a0, _, a1⟩ | ⟨e, _⟩
    · show 0 ≤ r.at_ ∧ r.at_ + 4 ≤ (o.data.length : Int) ∧ _
      omega
    · rw [e] at hs; exact absurd hs (by decide)
/-- What is marked: of the relocations so far, and so many bytes of the next. -/
def markV (p : Nat) (l : List RelV) (f : Int) (kk n : Nat) : List Value := (List.range n).map fun q => .bool (hitB p l q || decide (f ≤ (q : Int) ∧ (q : Int) < f + kk))
theorem mark_len (p : Nat) (l : List RelV) (f : Int) (kk n : Nat) : (markV p l f kk n).length = n := by simp [markV]
theorem mark_get {p : Nat} {l : List RelV} {f : Int} {kk n q : Nat} (h : q < n) : (markV p l f kk n)[q]? = some (.bool (hitB p l q || decide (f ≤ (q : Int) ∧ (q : Int) < f + kk))) := by simp [markV, h]
theorem mark_zero (p : Nat) (l : List RelV) (f : Int) (n : Nat) : markV p l f 0 n = markV p l 0 0 n := by
  unfold markV
  refine List.map_congr_left fun q _ => ?_
  have e1 : decide (f ≤ (q : Int) ∧ (q : Int) < f + (0 : Nat)) = false := decide_eq_false (by omega)
  have e2 : decide ((0 : Int) ≤ (q : Int) ∧ (q : Int) < 0 + (0 : Nat)) = false := decide_eq_false (by omega)
  rw [e1, e2]
theorem mark_set {p : Nat} {l : List RelV} {f : Nat} {kk n : Nat} (h : f + kk < n) : (markV p l f kk n).set (f + kk) (.bool true) = markV p l f (kk + 1) n := by
  apply List.ext_getElem?
  intro q
  by_cases hq : q < n
  · by_cases e : f + kk = q
    · subst e
      rw [List.getElem?_set_self (by rw [mark_len]; exact h), mark_get h]
      congr 2
      have : decide ((f : Int) ≤ ((f + kk : Nat) : Int) ∧ ((f + kk : Nat) : Int) < f + ((kk + 1 : Nat) : Int)) = true := decide_eq_true (by omega)
      rw [this, Bool.or_true]
    · rw [List.getElem?_set_ne e, mark_get hq, mark_get hq]
      congr 3
      exact decide_eq_decide.2 (by omega)
  · rw [List.getElem?_eq_none (by rw [List.length_set, mark_len]; omega), List.getElem?_eq_none (by rw [mark_len]; omega)]
theorem mark_done {p : Nat} {l : List RelV} {j n : Nat} {r : RelV} (h : l[j]? = some r) (hs : r.sect = (p : Int)) : markV p (l.take j) (fromV p r) 4 n = markV p (l.take (j + 1)) 0 0 n := by
  unfold markV
  refine List.map_congr_left fun q _ => ?_
  rw [hit_snoc h]
  have e2 : decide ((0 : Int) ≤ (q : Int) ∧ (q : Int) < 0 + (0 : Nat)) = false := decide_eq_false (by omega)
  rw [e2, Bool.or_false]
  congr 2
  exact decide_eq_decide.2 ⟨fun h => ⟨hs, by omega⟩, fun h => by omega⟩
theorem mark_skip {p : Nat} {l : List RelV} {j n : Nat} {r : RelV} (h : l[j]? = some r) (hs : r.sect ≠ (p : Int)) : markV p (l.take j) 0 0 n = markV p (l.take (j + 1)) 0 0 n := by
  unfold markV
  refine List.map_congr_left fun q _ => ?_
  rw [hit_snoc h]
  have e : decide (r.sect = (p : Int) ∧ fromV p r ≤ q ∧ (q : Int) < fromV p r + 4) = false := decide_eq_false (fun h => hs h.1)
  rw [e, Bool.or_false]
theorem mark_nil (p n : Nat) : markV p [] 0 0 n = List.replicate n (.bool false) := by
  apply List.ext_getElem?
  intro q
  by_cases hq : q < n
  · rw [mark_get hq, List.getElem?_replicate, if_pos hq]
    have e : decide ((0 : Int) ≤ (q : Int) ∧ (q : Int) < 0 + (0 : Nat)) = false := decide_eq_false (by omega)
    rw [e]
    rfl
  · rw [List.getElem?_eq_none (by rw [mark_len]; omega), List.getElem?_eq_none (by rw [List.length_replicate]; omega)]
theorem img_eight {os : List ObjV} (hok : ∀ o ∈ os, objOk o) : imgLen os % 8 = 0 := by
  have h : ∀ l : List ObjV, (∀ o ∈ l, objOk o) → (l.map fun o => o.data.length).sum % 8 = 0 := by
    intro l
    induction l with
    | nil => intro _; rfl
    | cons o l ih =>
      intro hl
      have h1 := (hl o (List.mem_cons_self ..)).1.2.2.1
      have h2 := ih (fun o' ho' => hl o' (List.mem_cons_of_mem _ ho'))
      rw [List.map_cons, List.sum_cons]
      omega
  unfold imgLen base
  rw [sumD_eq]
  have := h os hok
  omega
end Go.Proofs.Ytnbooljaodkedaa
