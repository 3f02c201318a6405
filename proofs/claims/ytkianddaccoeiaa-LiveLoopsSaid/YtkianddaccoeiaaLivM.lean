/- The pairs of registers that clash, walked. Conditions stand at the theorem. -/
import Derived.Test.YtkianddaccoeiaaLivL
namespace Go.Proofs.Ytkianddaccoeiaa
open Go.RowKit Go.Maps Go.Proofs.Ytkianddaccoeiaa.PL
set_option linter.unusedVariables false
set_option linter.unusedSimpArgs false
theorem Blk.kb {w w' : World} {b : Nat} {cs : Array Value} {ty : TypeId} {X : Nat → Prop} (h : Blk w b cs ty) (k : Kb X w w') (hn : ¬X b) : Blk w' b cs ty := (k.block b h.lt hn).trans h
theorem SetAt.kb {w w' : World} {b K : Nat} {S : Int → Bool} {X : Nat → Prop} (h : SetAt w b K S) (k : Kb X w w') (hn : ¬X b) : SetAt w' b K S := by
  obtain ⟨D, h, r⟩ := h
  have hl := h.lt
  obtain ⟨es, clock, hb, r'⟩ := h
  exact ⟨D, ⟨es, clock, (k.block b hl hn).trans hb, r'⟩, r⟩
theorem Sets.kb {w w' : World} {g : Nat} {bs : List Nat} {K : Nat} {S : Nat → Int → Bool} {X : Nat → Prop} (h : Sets w g bs K S) (k : Kb X w w') (hg : ¬X g) (hb : ∀ b ∈ bs, ¬X b) : Sets w' g bs K S :=
  ⟨h.row.kb k hg, fun j b hj => (h.set j b hj).kb k (hb b (List.mem_of_getElem? hj)), h.once⟩
theorem Kb.kpX {X : Nat → Prop} {a b : World} (h : Kp a b) : Kb X a b := (Kb.refl X a).kp h
theorem IntsAt.kbO {w w' : World} {A : Option Addr} {xs : List Int} {b : Nat} (h : IntsAt w A xs) (k : Kb (fun j => j = b) w w') (hb : ∀ cs ty fr, w.heap[b]? ≠ some (.cells cs ty fr)) : IntsAt w' A xs := fun hne => by
  obtain ⟨g, off, e, hg, hc⟩ := h hne
  have hn : ¬g = b := fun hx => by
    subst hx
    have := hc 0 (by cases xs with | nil => exact absurd rfl hne | cons x l => simp)
    unfold World.cell? at this
    split at this
    · rename_i hb'
      exact hb _ _ _ hb'
    · cases this
  exact ⟨g, off, e, Nat.lt_of_lt_of_le hg k.size, fun i hi => (World.cell?_of_block (a := ⟨g, off + i, none⟩) (k.block g hg hn)).trans (hc i hi)⟩
/-- Nine cells of an instruction. -/
theorem Blk.nine {w : World} {b : Nat} {a0 a1 a2 a3 a4 a5 a6 a7 a8 : Value} {ty : TypeId} (h : Blk w b #[a0, a1, a2, a3, a4, a5, a6, a7, a8] ty) : b < w.heap.size ∧ w.cell? ⟨b, 0, none⟩ = some a0 ∧ w.cell? ⟨b, 1, none⟩ = some a1 ∧ w.cell? ⟨b, 2, none⟩ = some a2 ∧ w.cell? ⟨b, 3, none⟩ = some a3 ∧ w.cell? ⟨b, 4, none⟩ = some a4 ∧ w.cell? ⟨b, 5, none⟩ = some a5 ∧ w.cell? ⟨b, 6, none⟩ = some a6 ∧ w.cell? ⟨b, 7, none⟩ = some a7 ∧ w.cell? ⟨b, 8, none⟩ = some a8 :=
  ⟨h.lt, h.cell 0, h.cell 1, h.cell 2, h.cell 3, h.cell 4, h.cell 5, h.cell 6, h.cell 7, h.cell 8⟩
/-- The first instructions' pairs are there. -/
def Upto (f : FunV) (P : Int → Int → Bool) (k : Nat) : Prop := ∀ n i, n < k → f.code[n]? = some i → 0 ≤ i.writes → ∀ r, inK f r → behindB f n i r = true → (i.op ≠ 3 ∨ r ≠ i.a) → HasP f P i.writes r
theorem Upto.more {f : FunV} {P Q : Int → Int → Bool} {k : Nat} (h : Upto f P k) (hm : ∀ x y, P x y = true → Q x y = true) : Upto f Q k := fun n i hn hi hw r hr hb hc => (h n i hn hi hw r hr hb hc).more hm
set_option maxRecDepth 100000 in
set_option maxHeartbeats 8000000 in
theorem Clashes_calls (x : FunC) (w : World) (h : FunAt w x) (hf : x.f.ok) (hl1 : x.f.code.length ≤ 10000) (hl2 : x.f.kinds.length ≤ 10000) (hl3 : ∀ i ∈ x.f.code, i.args.length ≤ 10000) (hl4 : x.f.params.length ≤ 10000) : Calls Try.prog 11 #[.agg x.cells] w (PairsR w (listP x.f.kinds.length (clashB x.f))) := by
  have hmm := @run_makeMap Try.prog
  have hk0 := Aside.mk ((Kp.refl w).alloc (.cells x.cells 25))
  have hb0 := Blk.new w x.cells 25
  have hs0 : Aside ((w.alloc (.cells x.cells 25)).heap.size = w.heap.size + 1) := ⟨by simp⟩
  have hfl := Aside.mk (flowLive_calls x _ (h.kp hk0.out) hf hl1 hl2 hl3)
  have hone := Aside.mk (fun (n : Nat) (hn : n < x.f.code.length) => h.one hn)
  have hat := Aside.mk h
  have hscc := h.slC.1
  have hsP := Aside.mk h.slP
  have hpar := Aside.mk h.params
  have hbeh := Aside.mk (fun (V : World) (kV : Kp w V) (g : Nat) (bs : List Nat) (hS : Sets V g bs x.f.kinds.length (liveB x.f)) (hbl : bs.length = x.f.code.length + 1) (n : Nat) (y : InsV) (hy : x.f.code[n]? = some y) => behind_calls x (h.kp kV) hf hl1 hl2 hS hbl hy (x.f.code.length + 1) (x.f.code.length + 1) rfl)
  have hcl1 := Aside.mk (fun (V : World) (kV : Kp w V) (Bf Bp bp : Nat) (S : Int → Int → Bool) (hb : Blk V Bf x.cells 25) (hp : Blk V Bp #[.map (some bp)] 57) (hS : PairsAt V bp x.f.kinds.length S) (a b : Nat) (ha : a < x.f.kinds.length) (hbb : b < x.f.kinds.length) => clash1_calls x (h.kp kV) hb hp hS hl2 a b ha hbb)
  obtain ⟨f, P, cp, Q, ck, R, cs, C, cc, L⟩ := x
  simp only [FunC.cells] at *
  replace hf := Aside.mk hf
  replace hl3 := Aside.mk hl3
  clear h
  generalize hW0 : w.alloc (.cells #[.string f.name, .bool f.static, .slice P f.params.length cp, .slice Q f.kinds.length ck, .slice R f.slots.length cs, .slice C f.code.length cc] 25) = W0 at *
  replace hW0 := Aside.mk hW0
  obtain ⟨q, b0, b1, b2, b3, b4, b5⟩ := hb0.six
  rw [← hW0.out] at b0 b1 b2 b3 b4 b5
  replace hb0 := Aside.mk hb0
  go_enter Try.func11, Try.ntmps11
  go_wp2_with fail
  rw [hW0.out]
  refine Calls.mono hfl.out ?_
  clear b0 b1 b2 b3 b4 b5 q
  rintro e W1 ⟨g, bs, rfl, hbl, hgl, hbl2, hS1, k1⟩
  simp only at hbl hS1
  have hgW := Aside.mk hS1.row.lt
  have hgb : Aside (∀ b ∈ bs, b < W1.heap.size) := ⟨fun b hb => by
    obtain ⟨j, hj, rfl⟩ := List.mem_iff_getElem.1 hb
    exact (hS1.set j _ (List.getElem?_eq_getElem hj)).lt⟩
  replace hbl := Aside.mk hbl
  replace hgl := Aside.mk hgl
  replace hbl2 := Aside.mk hbl2
  have hS1 := Aside.mk hS1
  have kp1 := Aside.mk (hk0.out.trans k1)
  have hbf := Aside.mk (hb0.out.kp k1)
  have hW1 := Aside.mk (show w.heap.size + 1 ≤ W1.heap.size by have := k1.size; have := hs0.out; omega)
  clear k1
  have hpr := Aside.mk ((PairsAt.made W1 f.kinds.length).kp ((Kp.refl (W1.alloc (.map #[] 0))).alloc (.cells #[.map (some W1.heap.size)] 57)))
  have hbp := Blk.new (W1.alloc (.map #[] 0)) #[.map (some W1.heap.size)] 57
  rw [World.size_alloc] at hbp
  replace hbp := Aside.mk hbp
  have kp2 := Aside.mk (((Kp.refl W1).alloc (.map #[] 0)).alloc (.cells #[.map (some W1.heap.size)] 57))
  go_upto_region 4 with fail
  generalize (W1.alloc (.map #[] 0)).alloc (.cells #[.map (some W1.heap.size)] 57) = V1 at *
  have hbf1 := Aside.mk (hbf.out.kp kp2.out)
  have hS2 := Aside.mk (hS1.out.kp kp2.out)
  have kp3 := Aside.mk (kp1.out.trans kp2.out)
  have hV1s := Aside.mk kp2.out.size
  have hwbp := Aside.mk (show w.heap.size < W1.heap.size by have := hW1.out; omega)
  have hgb2 : Aside (g < W1.heap.size) := ⟨by have := hS1.out.row.lt; omega⟩
  clear hS1 kp1 hbf hgW kp2 hmm hfl
  generalize hbpe : W1.heap.size = bp at *
  clear hbpe
  -- what holds while only the set of pairs is written
  have hin := Aside.mk (fun (V : World) (kV : Kb (fun j => j = bp) V1 V) => show (Kp w V ∧ Blk V w.heap.size _ _ ∧ Blk V (bp + 1) _ _ ∧ Sets V g bs f.kinds.length (liveB f)) from ⟨kp3.out.kb kV (fun j hj => by rw [hj]; have := hwbp.out; omega), hbf1.out.kb kV (by have := hwbp.out; omega), hbp.out.kb kV (by omega), hS2.out.kb kV (by have := hgb2.out; omega) (fun b hb => by have := hgb.out b hb; omega)⟩)
  obtain ⟨q, b0, b1, b2, b3, b4, b5⟩ := (hin.out V1 (Kb.refl _ _)).2.1.six
  go_wp2_with fail
  clear q b0 b1 b2 b3 b4 b5
  go_loopw [22] (fun i wr => ∃ (k : Nat) (S : Int → Int → Bool), k ≤ f.code.length ∧ i = .int .i64 k ∧ Aside (PairsAt wr bp f.kinds.length S) ∧ Aside (SndP f S ∧ Upto f S k) ∧ Aside (Kb (fun j => j = bp) V1 wr)) (fun i _ => f.code.length - (intOf i).toNat)
  case atStart => exact ⟨0, _, Nat.zero_le _, rfl, hpr, ⟨(fun x y h => by cases h), fun n i hn => absurd hn (by omega)⟩, ⟨Kb.refl _ _⟩⟩
  case round =>
    clear hpr
    obtain ⟨k, S, hk, rfl, hpS, hSU, kb⟩ := hrel
    by_cases hlt : k < f.code.length
    · obtain ⟨y, gc, oc, hy1, hy2, hyat, rfl, hgc, h9⟩ := hone.out k hlt
      have kpr := Aside.mk (hin.out _ kb.out).1
      obtain ⟨c0, c1, c2, c3, c4, c5, c6, c7, c8⟩ := FunAt.nine (w := wr) (y := y) (g := gc) (o := oc + k * 9) (fun j hj => (kpr.out.cell (p := ⟨gc, _, none⟩) hgc).trans (h9 j hj))
      have hyok := Aside.mk (hf.out.at hy2)
      have hwrs := Aside.mk (fun (V : World) => show Calls Try.prog 22 #[.agg #[.int .i64 y.i.op, .int .i64 y.i.dst, .int .i64 y.i.a, .int .i64 y.i.b, .int .u32 y.i.word, .int .u64 y.i.bits, .string y.i.name, .slice y.A y.i.args.length y.c, .int .i64 y.i.to]] V fun e w' => e = .returned (.int .i64 y.i.writes) ∧ Kp V w' from Writes_calls y V hyok.out.op)
      have hbi := Aside.mk (Blk.new wr #[.int .i64 y.i.op, .int .i64 y.i.dst, .int .i64 y.i.a, .int .i64 y.i.b, .int .u32 y.i.word, .int .u64 y.i.bits, .string y.i.name, .slice y.A y.i.args.length y.c, .int .i64 y.i.to] 35)
      have ka := Aside.mk ((Kp.refl wr).alloc (.cells #[.int .i64 y.i.op, .int .i64 y.i.dst, .int .i64 y.i.a, .int .i64 y.i.b, .int .u32 y.i.word, .int .u64 y.i.bits, .string y.i.name, .slice y.A y.i.args.length y.c, .int .i64 y.i.to] 35))
      replace h9 := Aside.mk h9
      replace hy1 := Aside.mk hy1
      replace hy2 := Aside.mk hy2
      replace hyat := Aside.mk hyat
      go_upto_region 7 with fail
      clear c0 c1 c2 c3 c4 c5 c6 c7 c8
      generalize wr.alloc (.cells #[.int .i64 y.i.op, .int .i64 y.i.dst, .int .i64 y.i.a, .int .i64 y.i.b, .int .u32 y.i.word, .int .u64 y.i.bits, .string y.i.name, .slice y.A y.i.args.length y.c, .int .i64 y.i.to] 35) = V2 at *
      have hitb : Aside (bp < wr.heap.size) := ⟨hpS.out.lt⟩
      generalize hwse : wr.heap.size = ws at *
      replace hwse := Aside.mk hwse
      obtain ⟨q, c0, c1, c2, c3, c4, c5, c6, c7, c8⟩ := hbi.out.nine
      go_wp2_with fail
      refine Calls.mono (hwrs.out _) ?_
      clear c0 c1 c2 c3 c4 c5 c6 c7 c8 q
      rintro e w3 ⟨rfl, k3⟩
      have kb3 := Aside.mk ((kb.out.kp ka.out).kp k3)
      have hp3 := Aside.mk ((hpS.out.kp ka.out).kp k3)
      have hbi3 := Aside.mk (hbi.out.kp k3)
      clear k3 ka hbi hwrs
      by_cases hwr0 : y.i.writes < 0
      · have hu : Aside (Upto f S (k + 1)) := ⟨fun n i hn hi hw => by
          by_cases e : n = k
          · subst e
            obtain rfl := Option.some.inj (hy2.out.symm.trans hi)
            omega
          · exact hSU.out.2 n i (by omega) hi hw⟩
        go_wp2_with fail
        go_roundw
        case rel => exact ⟨k + 1, S, by omega, by go_num, hp3, ⟨hSU.out.1, hu.out⟩, kb3⟩
        case measure => simp [intOf]; omega
      · have hwk : inK f y.i.writes := by
          rcases hyok.out.writes with h | h
          · omega
          · exact h
        obtain ⟨dn, hdn⟩ : ∃ dn : Nat, y.i.writes = dn := ⟨y.i.writes.toNat, by omega⟩
        have hdk : dn < f.kinds.length := by unfold inK at hwk; omega
        rw [hdn] at hwr0 ⊢
        replace hwk := Aside.mk hwk
        replace hdn := Aside.mk hdn
        obtain ⟨q, b0, b1, b2, b3, b4, b5⟩ := (hin.out _ kb3.out).2.1.six
        have hbc := Aside.mk (hbeh.out _ (hin.out _ kb3.out).1 g bs (hin.out _ kb3.out).2.2.2 hbl.out k y.i hy2.out)
        go_wp2_with fail
        refine Calls.mono hbc.out ?_
        clear q b0 b1 b2 b3 b4 b5 hbc
        rintro e w4 ⟨b4, rfl, hb4, hset4, k4⟩
        have kb4 := Aside.mk (kb3.out.kp k4)
        have hp4 := Aside.mk (hp3.out.kp k4)
        have hbi4 := Aside.mk (hbi3.out.kp k4)
        have hb4n : Aside (b4 ≠ bp) := ⟨by have := hp3.out.lt; omega⟩
        replace hset4 := Aside.mk hset4
        clear k4
        go_wp2_with (first | (at_range; refine wpList_rangeS _ rfl _ 53 rfl Try.underlying53 b4 f.kinds.length _ rfl hset4.out ?_; intro w5 cnt hR hg5 hs5) | fail)
        go_frame
        have hp5 := Aside.mk (hp4.out.grown hg5 (by simp))
        have kb5 := Aside.mk (kb4.out.grown hg5 (fun j e => by cases e))
        have hbi5 := Aside.mk (hbi4.out.grown hg5 (by simp))
        have hV4 := Aside.mk (show V1.heap.size ≤ w4.heap.size from kb4.out.size)
        have hbi4l := Aside.mk hbi4.out.lt
        replace hR := Aside.mk hR
        clear hg5 hs5
        generalize hit : w4.heap.size = it at *
        replace hit := Aside.mk hit
        go_loopw [9] (fun _ wv => ∃ (T : Int → Int → Bool) (left : Int → Bool) (cnt : Nat), Aside (RgAt wv b4 it f.kinds.length (behindB f k y.i) left cnt) ∧ Aside (PairsAt wv bp f.kinds.length T) ∧ Aside (SndP f T ∧ Upto f T k ∧ ∀ r, behindB f k y.i r = true → left r = false → (y.i.op ≠ 3 ∨ r ≠ y.i.a) → HasP f T dn r) ∧ Aside (Kb (fun j => j = bp) V1 wv) ∧ Aside (Blk wv ws #[.int .i64 y.i.op, .int .i64 y.i.dst, .int .i64 y.i.a, .int .i64 y.i.b, .int .u32 y.i.word, .int .u64 y.i.bits, .string y.i.name, .slice y.A y.i.args.length y.c, .int .i64 y.i.to] 35)) (fun _ wv => wv.rangeLeft b4 it)
        case atStart => exact ⟨S, _, _, hR, hp5, ⟨hSU.out.1, hSU.out.2, fun r h1 h2 => absurd h1 (by rw [h2]; simp)⟩, kb5, hbi5⟩
        case round =>
          clear hR hp5 kb5 hbi5
          obtain ⟨T, left, cnt, hR, hpT, hT, kbv, hbiv⟩ := hrel
          go_wp2_with (first | (at_next; refine wpList_nextS _ rfl _ rfl b4 it f.kinds.length cnt _ left rfl hR.out ?_ ?_) | fail)
          · intro hl0
            have hu : Aside (Upto f T (k + 1)) := ⟨fun n i hn hi hw r hr hb hc => by
              by_cases e : n = k
              · subst e
                obtain rfl := Option.some.inj (hy2.out.symm.trans hi)
                rw [hdn.out]
                exact hT.out.2.2 r hb (hl0 r) hc
              · exact hT.out.2.1 n i (by omega) hi hw r hr hb hc⟩
            clear hl0
            go_wp2
            go_roundw
            case rel => exact ⟨k + 1, T, by omega, by go_num, hpT, ⟨hT.out.1, hu.out⟩, kbv⟩
            case measure => simp [intOf]; omega
          · intro xx w6 cnt6 hlx hSx hR6 hlt6 hg6 hs6 hen
            have hxk := hset4.out.low xx hSx
            obtain ⟨xn, rfl⟩ : ∃ xn : Nat, xx = xn := ⟨xx.toNat, by omega⟩
            have hlq := Aside.mk hR.out.left_eq
            have hitn : Aside (it ≠ bp ∧ it ≠ ws) := ⟨by
              have h1 := hR.out.lt
              have h2 := hbi4l.out
              have h3 := hit.out
              have h4 := hitb.out
              constructor <;> omega⟩
            have hp6 := Aside.mk (hpT.out.grown hg6 (fun e => hitn.out.1 (Option.some.inj e).symm))
            have hbi6 := hbiv.out.grown hg6 (fun e => hitn.out.2 (Option.some.inj e).symm)
            have kb6 := Aside.mk (kbv.out.grown hg6 (fun j e => by cases e; have h1 := hV4.out; have h2 := hit.out; exact Or.inr (by omega)))
            replace hR6 := Aside.mk hR6
            replace hSx := Aside.mk hSx
            replace hlx := Aside.mk hlx
            replace hlt6 := Aside.mk hlt6
            clear hg6 hs6 hpT hbiv
            obtain ⟨q, c0, c1, c2, c3, c4, c5, c6, c7, c8⟩ := hbi6.nine
            have hsrc : Aside ((y.i.op ≠ 3 ∨ (xn : Int) ≠ y.i.a) → srcP f dn xn) := ⟨fun hc => Or.inl ⟨k, y.i, hy2.out, hdn.out, hSx.out, hc⟩⟩
            have hnew : Aside ((y.i.op ≠ 3 ∨ (xn : Int) ≠ y.i.a) → SndP f (addP f T dn xn) ∧ Upto f (addP f T dn xn) k ∧ ∀ r, behindB f k y.i r = true → (left r && !decide (r = (xn : Int))) = false → (y.i.op ≠ 3 ∨ r ≠ y.i.a) → HasP f (addP f T dn xn) dn r) := ⟨fun hc => ⟨hT.out.1.add (by have := hwk.out; rw [hdn.out] at this; exact this) hxk (hsrc.out hc), hT.out.2.1.more (fun _ _ h => addP_old _ _ h), fun r h1 h2 h3 => by
              simp only [Bool.and_eq_false_iff, Bool.not_eq_false', decide_eq_true_eq] at h2
              rcases h2 with h2 | rfl
              · exact (hT.out.2.2 r h1 h2 h3).more (fun _ _ h => addP_old _ _ h)
              · exact addP_has _ _ _ _⟩⟩
            have hno : Aside (¬(y.i.op ≠ 3 ∨ (xn : Int) ≠ y.i.a) → SndP f T ∧ Upto f T k ∧ ∀ r, behindB f k y.i r = true → (left r && !decide (r = (xn : Int))) = false → (y.i.op ≠ 3 ∨ r ≠ y.i.a) → HasP f T dn r) := ⟨fun hc => ⟨hT.out.1, hT.out.2.1, fun r h1 h2 h3 => by
              simp only [Bool.and_eq_false_iff, Bool.not_eq_false', decide_eq_true_eq] at h2
              rcases h2 with h2 | rfl
              · exact hT.out.2.2 r h1 h2 h3
              · exact absurd h3 hc⟩⟩
            have hcall := Aside.mk (hcl1.out w6 (hin.out _ kb6.out).1 w.heap.size (bp + 1) bp T (hin.out _ kb6.out).2.1 (hin.out _ kb6.out).2.2.1 hp6.out dn xn hdk (by omega))
            by_cases e3 : y.i.op = 3
            · by_cases ea : (xn : Int) = y.i.a
              · have hn := Aside.mk (hno.out (fun h => by rcases h with h | h; exact h e3; exact h ea))
                have g1 : (y.i.op != 3) = false := by simp [e3]
                have g2 : ((xn : Int) != y.i.a) = false := by simp [ea]
                have g1' : (y.i.op == 3) = true := by simp [e3]
                have g2' : ((xn : Int) == y.i.a) = true := by simp [ea]
                replace e3 := Aside.mk e3
                replace ea := Aside.mk ea
                go_wp2_with fail
                go_roundw
                case rel => exact ⟨T, _, cnt6, hR6, hp6, hn, kb6, ⟨hbi6⟩⟩
                case measure => rw [hR6.out.left_eq, hlq.out]; exact hlt6.out
              · have hn := Aside.mk (hnew.out (Or.inr ea))
                have g1 : (y.i.op != 3) = false := by simp [e3]
                have g2 : ((xn : Int) != y.i.a) = true := by simp [ea]
                have g1' : (y.i.op == 3) = true := by simp [e3]
                have g2' : ((xn : Int) == y.i.a) = false := by simp [ea]
                replace e3 := Aside.mk e3
                replace ea := Aside.mk ea
                replace hbi6 := Aside.mk hbi6
                go_wp2_with fail
                refine Calls.mono hcall.out ?_
                rintro e w7 ⟨rfl, hp7, hg7⟩
                have hR7 := hR6.out.kept hg7 (fun e => hb4n.out (Option.some.inj e)) (fun e => hitn.out.1 (Option.some.inj e))
                have kb7 := Aside.mk (kb6.out.grown hg7 (fun j e => by cases e; exact Or.inl rfl))
                have hbi7 := Aside.mk (hbi6.out.grown hg7 (fun e => by have h1 := Option.some.inj e; have h2 := hitb.out; omega))
                clear hg7
                go_wp2_with fail
                go_roundw
                case rel => exact ⟨addP f T dn xn, _, cnt6, ⟨hR7⟩, ⟨hp7⟩, hn, kb7, hbi7⟩
                case measure => rw [hR7.left_eq, hlq.out]; exact hlt6.out
            · have hn := Aside.mk (hnew.out (Or.inl e3))
              have g1 : (y.i.op != 3) = true := by simp [e3]
              have g1' : (y.i.op == 3) = false := by simp [e3]
              replace e3 := Aside.mk e3
              replace hbi6 := Aside.mk hbi6
              go_wp2_with fail
              refine Calls.mono hcall.out ?_
              rintro e w7 ⟨rfl, hp7, hg7⟩
              have hR7 := hR6.out.kept hg7 (fun e => hb4n.out (Option.some.inj e)) (fun e => hitn.out.1 (Option.some.inj e))
              have kb7 := Aside.mk (kb6.out.grown hg7 (fun j e => by cases e; exact Or.inl rfl))
              have hbi7 := Aside.mk (hbi6.out.grown hg7 (fun e => by have h1 := Option.some.inj e; have h2 := hitb.out; omega))
              clear hg7
              go_wp2_with fail
              go_roundw
              case rel => exact ⟨addP f T dn xn, _, cnt6, ⟨hR7⟩, ⟨hp7⟩, hn, kb7, hbi7⟩
              case measure => rw [hR7.left_eq, hlq.out]; exact hlt6.out
    · obtain rfl : k = f.code.length := by omega
      have hfp : Aside (0 < f.code.length) := ⟨hf.out.pos⟩
      obtain ⟨bz, hbz⟩ : ∃ bz, Aside (bs[0]? = some bz) := ⟨_, ⟨List.getElem?_eq_getElem (by have := hbl.out; omega)⟩⟩
      obtain ⟨kw, hB, hBp, hSS⟩ := hin.out _ kb.out
      have hcz := hSS.cell hbz.out
      have hsz := Aside.mk (hSS.set 0 bz hbz.out)
      replace hB := Aside.mk hB
      replace hBp := Aside.mk hBp
      replace kw := Aside.mk kw
      clear hSS hlt
      have ten := Aside.mk (fun (V : World) (kV : Kp wr V) => show V.cell? ⟨g, 0, none⟩ = some (.map (some bz)) ∧ V.cell? ⟨w.heap.size, 2, none⟩ = some (.slice P f.params.length cp) from ⟨(kV.cell (p := ⟨g, 0, none⟩) (by obtain ⟨_, _, e, hl⟩ := cell_some hcz; cases e; exact hl)).trans hcz, (hB.out.kp kV).cell 2⟩)
      have hbzl := Aside.mk hsz.out.lt
      have hnews : Aside (∀ V, Kp wr V → ∀ ad, P = some ad → ∀ j u, (f.params.map (Value.int .i64))[j]? = some u → V.cell? (ad.add j) = some u) := ⟨fun V kV ad e j u hu => by
        have hj : j < f.params.length := by simpa using (List.getElem?_eq_some_iff.1 hu).1
        obtain ⟨gp, op, e2, -, hcp⟩ := ((hpar.out.kp kw.out).kp kV).one hj
        obtain rfl := Option.some.inj (e.symm.trans e2)
        rw [addr_add, hcp]
        rw [List.getElem?_map, List.getElem?_eq_getElem hj] at hu
        rw [List.getD_eq_getElem?_getD, List.getElem?_eq_getElem hj]
        simpa using hu⟩
      clear hcz
      go_upto_region 15 with fail
      refine wp_hide (fun Q0 hQ0 => ?_)
      refine wp_region_held_drew (S := fun w' => w'.cell? ⟨g, 0, none⟩ = some (.map (some bz)) ∧ w'.cell? ⟨w.heap.size, 2, none⟩ = some (.slice P f.params.length cp)) (by kernel_rfl) ?hS0a (fun hHeld => ?_)
      case hS0a => exact (ten.out _ (Kp.refl wr).drew)
      refine wpAnyH_takeL (i := 0) (v := ?v0a) rfl (by kernel_rfl) (by kernel_rfl) (by kernel_rfl) (fun _ _ _ h => h) (Or.inl ⟨by kernel_rfl, ?hy0a⟩) (by assumption) ?rest0a
      case hy0a => (intro w hSw; (try dsimp only at hSw); go_simp; (try with_reducible rfl))
      try simp only [Act.put, List.setIfInBounds_toArray, List.set_cons_zero, List.set_cons_succ]
      refine wpAnyH_takeL (i := 1) (v := ?v1a) rfl (by kernel_rfl) (by kernel_rfl) (by kernel_rfl) (fun _ _ _ h => h) (Or.inl ⟨by kernel_rfl, ?hy1a⟩) (by assumption) ?rest1a
      case hy1a => (intro w hSw; (try dsimp only at hSw); go_simp; (try with_reducible rfl))
      try simp only [Act.put, List.setIfInBounds_toArray, List.set_cons_zero, List.set_cons_succ]
      refine wpAnyH_takeL (i := 2) (v := ?v2a) rfl (by kernel_rfl) (by kernel_rfl) (by kernel_rfl) (fun _ _ _ h => h) (Or.inl ⟨by kernel_rfl, ?hy2a⟩) (by assumption) ?rest2a
      case hy2a => (intro w hSw; (try dsimp only at hSw); go_simp; (try with_reducible rfl))
      try simp only [Act.put, List.setIfInBounds_toArray, List.set_cons_zero, List.set_cons_succ]
      refine wpAnyH_takeL (i := 5) (v := ?v5a) rfl (by kernel_rfl) (by kernel_rfl) (by kernel_rfl) (fun _ _ _ h => h) (Or.inl ⟨by kernel_rfl, ?hy5a⟩) (by assumption) ?rest5a
      case hy5a => (intro w hSw; (try dsimp only at hSw); go_simp; (try with_reducible rfl))
      try simp only [Act.put, List.setIfInBounds_toArray, List.set_cons_zero, List.set_cons_succ]
      refine wpAnyH_takeL (i := 6) (v := ?v6a) rfl (by kernel_rfl) (by kernel_rfl) (by kernel_rfl) (fun _ _ _ h => h) (Or.inl ⟨by kernel_rfl, ?hy6a⟩) (by assumption) ?rest6a
      case hy6a => (intro w hSw; (try dsimp only at hSw); go_simp; (try with_reducible rfl))
      try simp only [Act.put, List.setIfInBounds_toArray, List.set_cons_zero, List.set_cons_succ]
      refine wpAnyH_ready (rs := [3]) (by kernel_rfl) (by simp) ?_
      refine AllReadyH.consL rfl (fun Kx hKx => ?_) AllReadyH.nil
      go_simp
      refine Calls.mono (keysI2_calls bz _ hbzl.out) ?_
      rintro e w8 ⟨rfl, k8, hc8⟩
      have k8' := Aside.mk (((Kp.refl wr).drew).trans k8)
      replace hc8 := Aside.mk hc8
      refine hKx.out _ _ (ten.out _ k8'.out) (fun hHeld => ?_)
      clear hKx
      try simp only [Act.put, List.setIfInBounds_toArray, List.set_cons_zero, List.set_cons_succ]
      refine wpAnyH_ready (rs := [4]) (by kernel_rfl) (by simp) ?_
      refine AllReadyH.consL rfl (fun Kx hKx => ?_) AllReadyH.nil
      go_simp
      refine Calls.mono (collectI_calls (hsz.out.kp k8'.out) hl2 hc8.out) ?_
      rintro e w9 ⟨v9, ss, rfl, hss, hrow9, -, k9⟩
      have k9' := Aside.mk (k8'.out.trans k9)
      have hslen : Aside (ss.length ≤ 10000) := ⟨by rw [hss.length_eq]; exact Nat.le_trans (card_le f.kinds.length (liveB f 0)) hl2⟩
      have hsz89 := Aside.mk k9.size
      replace hrow9 := Aside.mk hrow9
      refine hKx.out _ _ (ten.out _ k9'.out) (fun hHeld => ?_)
      clear hKx
      try simp only [Act.put, List.setIfInBounds_toArray, List.set_cons_zero, List.set_cons_succ]
      refine wpAnyH_ready (rs := [7]) (by kernel_rfl) (by simp) ?_
      refine AllReadyH.consL rfl (fun Kx hKx => ?_) AllReadyH.nil
      have hnl : (f.params.map (Value.int .i64)).length = f.params.length * 1 := by simp
      refine step_app rfl (.tmp 58) (.tmp 60) 22 rfl w8.heap.size 3 1 8 Try.underlying22 info_int (by decide) v9 ss.length (ss.map (Value.int .i64)) rfl hrow9.out P f.params.length cp (f.params.map (Value.int .i64)) rfl hsP.out.2 hnl (hnews.out _ k9'.out) (by intro u hu; obtain ⟨z, -, rfl⟩ := List.mem_map.1 hu; rfl) (by have := hslen.out; omega) (by have := hslen.out; omega) hsz89.out ?_
      intro v10 w10 hown10 hg10
      have kp10 := Aside.mk (k9'.out.grown hg10 (fun j e => Nat.le_trans k8'.out.size (own_ge hrow9.out j e)))
      rw [← List.map_append] at hown10
      obtain ⟨A10, c10, rfl, hA10, -⟩ := own_ints hown10 (by simp)
      replace hA10 := Aside.mk hA10
      clear hown10 hg10 hnl
      refine hKx.out _ _ (ten.out _ kp10.out) (fun hHeld => ?_)
      clear hKx
      try simp only [Act.put, List.setIfInBounds_toArray, List.set_cons_zero, List.set_cons_succ]
      refine wpAnyH_takeL (i := 8) (v := ?v8a) rfl (by kernel_rfl) (by kernel_rfl) (by kernel_rfl) (fun _ _ _ h => h) (Or.inl ⟨by kernel_rfl, ?hy8a⟩) (by assumption) ?rest8a
      case hy8a => (intro w hSw; (try dsimp only at hSw); go_simp; (try with_reducible rfl))
      try simp only [Act.put, List.setIfInBounds_toArray, List.set_cons_zero, List.set_cons_succ]
      refine wpAnyH_done (by kernel_rfl) (hQ0.out _ _ ?_) _
      obtain ⟨fl, hfl⟩ : ∃ fl, ss ++ f.params = fl := ⟨_, rfl⟩
      have hfll : ss.length + f.params.length = fl.length := by rw [← hfl]; simp
      have hflK : Aside (∀ a ∈ fl, inK f a ∧ firstP f a) := ⟨fun a ha => by
        rw [← hfl] at ha
        rcases List.mem_append.1 ha with h | h
        · have := (listI_mem hsz.out.low a).1 (hss.mem_iff.1 h)
          exact ⟨hsz.out.low a this, Or.inl this⟩
        · exact ⟨hf.out.params a h, Or.inr h⟩⟩
      have hflA : Aside (∀ a, firstP f a → a ∈ fl) := ⟨fun a ha => by
        rw [← hfl]
        rcases ha with h | h
        · exact List.mem_append_left _ (hss.mem_iff.2 ((listI_mem hsz.out.low a).2 h))
        · exact List.mem_append_right _ h⟩
      have hfl2 : fl.length ≤ 20000 := by rw [← hfll]; have := hslen.out; omega
      rw [hfl] at hA10
      rw [hfll]
      replace hfl := Aside.mk hfl
      have hp10 := Aside.mk (hpS.out.kp kp10.out)
      have hB10 := Aside.mk (hB.out.kp kp10.out)
      have hBp10 := Aside.mk (hBp.out.kp kp10.out)
      have kw10 := Aside.mk (kw.out.trans kp10.out)
      have hbpl := Aside.mk hpS.out.lt
      have hbpw : Aside (w.heap.size < bp) := ⟨hwbp.out⟩
      have hncl := Aside.mk hp10.out.noCells
      clear hss k8' hc8 k9' hrow9 hslen hsz89 hnews ten hfll hpS hB hBp kw hsz
      -- what holds while only the set of pairs is written
      have hin2 := Aside.mk (fun (V : World) (kV : Kb (fun j => j = bp) w10 V) => show (Kp w V ∧ Blk V w.heap.size _ _ ∧ Blk V (bp + 1) _ _ ∧ IntsAt V A10 fl) from ⟨kw10.out.kb kV (fun j hj => by rw [hj]; have := hbpw.out; omega), hB10.out.kb kV (by have := hbpw.out; omega), hBp10.out.kb kV (by omega), hA10.out.kbO kV hncl.out⟩)
      go_wp2_with fail
      go_loopw [64] (fun i wv => ∃ (k : Nat) (T : Int → Int → Bool), k ≤ fl.length ∧ i = .int .i64 k ∧ Aside (PairsAt wv bp f.kinds.length T) ∧ Aside (SndP f T ∧ Upto f T f.code.length ∧ ∀ (j : Nat) (a : Int), j < k → fl[j]? = some a → ∀ b ∈ fl, HasP f T a b) ∧ Aside (Kb (fun j => j = bp) w10 wv)) (fun i _ => fl.length - (intOf i).toNat)
      case atStart => exact ⟨0, S, Nat.zero_le _, rfl, hp10, ⟨hSU.out.1, hSU.out.2, fun j a h => absurd h (by omega)⟩, ⟨Kb.refl _ _⟩⟩
      case round =>
        clear hp10 hSU
        obtain ⟨k, T, hk, rfl, hpT, hT, kbT⟩ := hrel
        by_cases hlt : k < fl.length
        · obtain ⟨a, ha⟩ : ∃ a, Aside (fl[k]? = some a) := ⟨_, ⟨List.getElem?_eq_getElem hlt⟩⟩
          obtain ⟨haK, haF⟩ := hflK.out a (List.mem_of_getElem? ha.out)
          obtain ⟨ga, oa, hAe, hga, hca⟩ := (hin2.out _ kbT.out).2.2.2.one hlt
          rw [List.getD_eq_getElem?_getD, ha.out, Option.getD_some] at hca
          obtain ⟨an, rfl⟩ : ∃ an : Nat, a = an := ⟨a.toNat, by unfold inK at haK; omega⟩
          have han : an < f.kinds.length := by unfold inK at haK; omega
          replace haK := Aside.mk haK
          replace haF := Aside.mk haF
          obtain rfl := hAe
          go_wp2_with fail
          go_loopw [70] (fun i wv => ∃ (j : Nat) (U : Int → Int → Bool), j ≤ fl.length ∧ i = .int .i64 j ∧ Aside (PairsAt wv bp f.kinds.length U) ∧ Aside (SndP f U ∧ (∀ x y, T x y = true → U x y = true) ∧ ∀ (j' : Nat) (b : Int), j' < j → fl[j']? = some b → HasP f U an b) ∧ Aside (Kb (fun j => j = bp) w10 wv)) (fun i _ => fl.length - (intOf i).toNat)
          case atStart => exact ⟨0, T, Nat.zero_le _, rfl, hpT, ⟨hT.out.1, fun _ _ h => h, fun j' b h => absurd h (by omega)⟩, kbT⟩
          case round =>
            clear hpT kbT hca hga
            obtain ⟨j, U, hj, rfl, hpU, hU, kbU⟩ := hrel
            by_cases hjl : j < fl.length
            · obtain ⟨b, hb⟩ : ∃ b, Aside (fl[j]? = some b) := ⟨_, ⟨List.getElem?_eq_getElem hjl⟩⟩
              obtain ⟨hbK, hbF⟩ := hflK.out b (List.mem_of_getElem? hb.out)
              obtain ⟨gb, ob, hBe, hgb', hcb⟩ := (hin2.out _ kbU.out).2.2.2.one hjl
              cases hBe
              rw [List.getD_eq_getElem?_getD, hb.out, Option.getD_some] at hcb
              obtain ⟨bn, rfl⟩ : ∃ bn : Nat, b = bn := ⟨b.toNat, by unfold inK at hbK; omega⟩
              have hbn : bn < f.kinds.length := by unfold inK at hbK; omega
              have hsnd : Aside (SndP f (addP f U an bn)) := ⟨hU.out.1.add haK.out hbK (Or.inr ⟨haF.out, hbF⟩)⟩
              have hcall := Aside.mk (hcl1.out _ (hin2.out _ kbU.out).1 w.heap.size (bp + 1) bp U (hin2.out _ kbU.out).2.1 (hin2.out _ kbU.out).2.2.1 hpU.out an bn han hbn)
              replace hbK := Aside.mk hbK
              replace hbF := Aside.mk hbF
              go_wp2_with fail
              refine Calls.mono hcall.out ?_
              rintro e w11 ⟨rfl, hp11, hg11⟩
              have kb11 := Aside.mk (kbU.out.grown hg11 (fun j e => by cases e; exact Or.inl rfl))
              clear hg11 hcall hcb hgb'
              go_wp2_with fail
              go_roundw
              case rel =>
                refine ⟨j + 1, addP f U an bn, by omega, by go_num, ⟨hp11⟩, ⟨hsnd.out, fun x y h => addP_old _ _ (hU.out.2.1 x y h), fun j' b' hj' hb' => ?_⟩, kb11⟩
                by_cases e : j' = j
                · subst e
                  obtain rfl := Option.some.inj (hb.out.symm.trans hb')
                  exact addP_has _ _ _ _
                · exact (hU.out.2.2 j' b' (by omega) hb').more (fun _ _ h => addP_old _ _ h)
              case measure => simp [intOf]; omega
            · obtain rfl : j = fl.length := by omega
              go_wp2
              go_roundw
              case rel =>
                refine ⟨k + 1, U, by omega, by go_num, hpU, ⟨hU.out.1, hT.out.2.1.more hU.out.2.1, fun j' a' hj' ha' b' hb' => ?_⟩, kbU⟩
                by_cases e : j' = k
                · subst e
                  obtain rfl := Option.some.inj (ha.out.symm.trans ha')
                  obtain ⟨q, hq, rfl⟩ := List.mem_iff_getElem.1 hb'
                  exact hU.out.2.2 q _ hq (List.getElem?_eq_getElem hq)
                · exact (hT.out.2.2 j' a' (by omega) ha' b' hb').more hU.out.2.1
              case measure => simp [intOf]; omega
        · obtain rfl : k = fl.length := by omega
          have hTe : T = clashB f := by
            funext x y
            refine clash_eq hT.out.1 (fun a b ha hb hs => ?_) x y
            rcases hs with ⟨n, i, hi, hw, hbh, hc⟩ | ⟨h1, h2⟩
            · have := hT.out.2.1 n i (List.getElem?_eq_some_iff.1 hi).1 hi (by rw [hw]; exact ha.1) b hb hbh hc
              rwa [hw] at this
            · obtain ⟨j', hj', rfl⟩ := List.mem_iff_getElem.1 (hflA.out a h1)
              exact hT.out.2.2 j' _ hj' (List.getElem?_eq_getElem hj') b (hflA.out b h2)
          subst hTe
          obtain ⟨kwz, -, hBpz, -⟩ := hin2.out _ kbT.out
          have hcp := hBpz.cell 0
          have hcp0 : wr.cell? ⟨bp + 1, 0, none⟩ = some (.map (some bp)) := hcp
          replace hBpz := Aside.mk hBpz
          clear hcp
          go_wp2_with fail
          refine Calls.mono (keysP2_calls bp _) ?_
          rintro e w12 ⟨rfl, k12, hc12⟩
          have hsf := Aside.mk (SortedFunc_calls (hpT.out.kp k12) hl2 hc12)
          have kz := Aside.mk (kwz.trans k12)
          clear k12 hc12 hcp0
          go_wp2_with fail
          refine Calls.mono hsf.out ?_
          rintro e w13 ⟨Az, cz, rfl, hrz, kz13⟩
          replace hrz := Aside.mk hrz
          replace kz13 := Aside.mk kz13
          go_wp2_with fail
          go_ret
          exact ⟨Az, cz, rfl, hrz.out, kz.out.trans kz13.out⟩
end Go.Proofs.Ytkianddaccoeiaa
