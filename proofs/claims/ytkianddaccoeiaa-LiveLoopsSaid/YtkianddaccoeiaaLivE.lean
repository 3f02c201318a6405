/- What is live, walked. Conditions stand at the theorem. -/
import Derived.Test.YtkianddaccoeiaaLivD
namespace Go.Proofs.Ytkianddaccoeiaa
open Go.RowKit Go.Maps Go.Proofs.Ytkianddaccoeiaa.PL
set_option linter.unusedVariables false
set_option linter.unusedSimpArgs false
/-- What flow.Live hands back. -/
def LiveR (w : World) (x : FunC) (e : Ending) (w' : World) : Prop := ∃ g bs, e = .returned (.slice (some ⟨g, 0, none⟩) (x.f.code.length + 1) (x.f.code.length + 1)) ∧ bs.length = x.f.code.length + 1 ∧ w.heap.size ≤ g ∧ (∀ b ∈ bs, w.heap.size ≤ b) ∧ Sets w' g bs x.f.kinds.length (liveB x.f) ∧ Kp w w'
/-- Sets that hold only what is live. -/
def Sound (f : FunV) (S : Nat → Int → Bool) : Prop := ∀ n r, S n r = true → LiveP f n r
/-- What is done at an instruction. -/
def Done (f : FunV) (S0 S : Nat → Int → Bool) (n : Nat) : Prop := ∀ i, f.code[n]? = some i → (∀ r ∈ i.reads, S n r = true) ∧ ∀ m ∈ nextI f.code.length n i, ∀ r, S0 m.toNat r = true → r ≠ i.writes → S n r = true
theorem done_closed {f : FunV} {S : Nat → Int → Bool} (h : ∀ n, n < f.code.length → Done f S S n) : Closed f (fun n r => S n r = true) := fun n i hi => by
  have hn : n < f.code.length := (List.getElem?_eq_some_iff.1 hi).1
  exact h n hn i hi
theorem grown_set (w : World) (b i : Nat) (v : Value) : w.grownBy (w.setCell ⟨b, i, none⟩ v) (some b) :=
  ⟨rfl, rfl, rfl, by simp [World.setCell], fun k _ hk => Below.heap_setCell _ _ _ _ (fun e => hk (by rw [e]))⟩
theorem set_alloc (w : World) (o : Obj) (b i : Nat) (v : Value) (h : b < w.heap.size) : (w.alloc o).setCell ⟨b, i, none⟩ v = (w.setCell ⟨b, i, none⟩ v).alloc o := by
  go_simp
theorem IntsAt.grown {w w' : World} {A : Option Addr} {xs : List Int} {b : Nat} (h : IntsAt w A xs) (k : w.grownBy w' (some b)) (hb : ∀ cs ty fr, w.heap[b]? ≠ some (.cells cs ty fr)) : IntsAt w' A xs := fun hne => by
  obtain ⟨g, off, e, hg, hc⟩ := h hne
  have hn : some g ≠ some b := fun hx => by
    cases hx
    have := hc 0 (by cases xs with | nil => exact absurd rfl hne | cons x l => simp)
    unfold World.cell? at this
    split at this
    · rename_i hb'
      exact hb _ _ _ hb'
    · cases this
  exact ⟨g, off, e, Nat.lt_of_lt_of_le hg k.size, fun i hi => (World.cell?_of_block (a := ⟨g, off + i, none⟩) (k.block g hg hn)).trans (hc i hi)⟩
theorem SetAt.noCells {w : World} {b K : Nat} {S : Int → Bool} (h : SetAt w b K S) : ∀ cs ty fr, w.heap[b]? ≠ some (.cells cs ty fr) := by
  obtain ⟨D, ⟨es, clock, hb, -⟩, -⟩ := h
  intro cs ty fr e
  rw [hb] at e
  cases e
theorem RgAt.noCells {w : World} {b it K cnt : Nat} {S left : Int → Bool} (h : RgAt w b it K S left cnt) : ∀ cs ty fr, w.heap[it]? ≠ some (.cells cs ty fr) := by
  obtain ⟨D, lf, ⟨es, clock, since, seen, c0, hb, F, hs', hD, hr, rest⟩, r⟩ := h
  intro cs ty fr e
  rw [hr] at e
  cases e
theorem Blk.six {w : World} {b : Nat} {a0 a1 a2 a3 a4 a5 : Value} {ty : TypeId} (h : Blk w b #[a0, a1, a2, a3, a4, a5] ty) : b < w.heap.size ∧ w.cell? ⟨b, 0, none⟩ = some a0 ∧ w.cell? ⟨b, 1, none⟩ = some a1 ∧ w.cell? ⟨b, 2, none⟩ = some a2 ∧ w.cell? ⟨b, 3, none⟩ = some a3 ∧ w.cell? ⟨b, 4, none⟩ = some a4 ∧ w.cell? ⟨b, 5, none⟩ = some a5 :=
  ⟨h.lt, h.cell 0, h.cell 1, h.cell 2, h.cell 3, h.cell 4, h.cell 5⟩
theorem Done.more {f : FunV} {S0 S S' : Nat → Int → Bool} {n : Nat} (h : Done f S0 S n) (hS : ∀ r, S n r = true → S' n r = true) : Done f S0 S' n := fun i hi =>
  ⟨fun r hr => hS r ((h i hi).1 r hr), fun m hm r hr hne => hS r ((h i hi).2 m hm r hr hne)⟩
set_option maxRecDepth 100000 in
set_option maxHeartbeats 8000000 in
theorem flowLive_calls (x : FunC) (w : World) (h : FunAt w x) (hf : x.f.ok) (hl1 : x.f.code.length ≤ 10000) (hl2 : x.f.kinds.length ≤ 10000) (hl3 : ∀ i ∈ x.f.code, i.args.length ≤ 10000) : Calls Try.prog 17 #[.agg x.cells] w (LiveR w x) := by
  have hmm := @run_makeMap Try.prog
  have hk0 := Aside.mk ((Kp.refl w).alloc (.cells x.cells 25))
  have hb0 := Blk.new w x.cells 25
  have hmk := make_maps (x.f.code.length + 1) (by omega) ((x.f.code.length : Int) + 1) (by simp)
  have hs0 : Aside ((w.alloc (.cells x.cells 25)).heap.size = w.heap.size + 1) := ⟨by simp⟩
  have hone := Aside.mk (fun (V : World) (kV : Kp (w.alloc (.cells x.cells 25)) V) (n : Nat) (hn : n < x.f.code.length) => (h.kp (hk0.out.trans kV)).one hn)
  have hnext := Aside.mk (fun (V : World) (kV : Kp (w.alloc (.cells x.cells 25)) V) (n : Nat) (y : InsV) (hy : x.f.code[n]? = some y) => Next_calls x n V (h.kp (hk0.out.trans kV)) y hy (by omega))
  have hscc := h.slC.1
  obtain ⟨f, P, cp, Q, ck, R, cs, C, cc, L⟩ := x
  simp only [FunC.cells] at *
  have hbox := Aside.mk (fun (V : World) (kV : Kp (w.alloc (.cells #[.string f.name, .bool f.static, .slice P f.params.length cp, .slice Q f.kinds.length ck, .slice R f.slots.length cs, .slice C f.code.length cc] 25)) V) => (hb0.kp kV).six)
  clear h hb0
  replace hf := Aside.mk hf
  replace hl3 := Aside.mk hl3
  generalize hW0 : w.alloc (.cells #[.string f.name, .bool f.static, .slice P f.params.length cp, .slice Q f.kinds.length ck, .slice R f.slots.length cs, .slice C f.code.length cc] 25) = W0 at *
  replace hW0 := Aside.mk hW0
  go_enter Try.func17, Try.ntmps17
  go_wp2
  rw [hW0.out]
  have hrow := Blk.new W0 (Array.replicate (f.code.length + 1) (Value.map none)) 53
  rw [show Array.replicate (f.code.length + 1) (Value.map none) = mapRow [] (f.code.length + 1) by simp [mapRow]] at hrow ⊢
  have kp := (Kp.refl W0).alloc (.cells (mapRow [] (f.code.length + 1)) 53)
  generalize W0.alloc (.cells (mapRow [] (f.code.length + 1)) 53) = W1 at *
  rw [hs0.out] at hrow
  replace hrow := Aside.mk hrow
  replace kp := Aside.mk kp
  go_loopw [20] (fun i wr => ∃ bs : List Nat, bs.length ≤ f.code.length + 1 ∧ i = .int .i64 (bs.length : Nat) ∧ Aside (Blk wr (w.heap.size + 1) (mapRow bs (f.code.length + 1)) 53) ∧ Aside ((∀ b ∈ bs, SetAt wr b f.kinds.length (fun _ => false) ∧ w.heap.size + 1 < b) ∧ bs.Nodup) ∧ Aside (Kp W0 wr)) (fun i _ => f.code.length + 1 - (intOf i).toNat)
  case atStart => exact ⟨[], Nat.zero_le _, rfl, hrow, ⟨fun b hb => (List.not_mem_nil hb).elim, List.nodup_nil⟩, kp⟩
  case round =>
    obtain ⟨bs, hbl, rfl, hbk, hsets, kp⟩ := hrel
    by_cases hlt : bs.length < f.code.length + 1
    · have hgl := hbk.out.lt
      have hb2 := hbk.out.alloc (.map #[] 0)
      have hfz := hb2.frozen bs.length
      have hcl := (hb2.cell bs.length).trans (mapRow_at bs _ _ hlt (Nat.le_refl _))
      have hsz := kp.out.size
      have hb3 := hb2.set (i := bs.length) (.map (some wr.heap.size))
      rw [mapRow_set bs _ wr.heap.size hlt] at hb3
      have hgs : (wr.alloc (.map #[] 0)).grownBy ((wr.alloc (.map #[] 0)).setCell ⟨w.heap.size + 1, bs.length, none⟩ (.map (some wr.heap.size))) (some (w.heap.size + 1)) := grown_set _ _ _ _
      have kp2 := Aside.mk ((kp.out.alloc (.map #[] 0)).setCell (p := ⟨w.heap.size + 1, bs.length, none⟩) (by have := hs0.out; show W0.heap.size ≤ w.heap.size + 1; omega) (.map (some wr.heap.size)))
      have hnew := Aside.mk ((SetAt.made wr f.kinds.length).grown hgs (fun e => by have := Option.some.inj e; omega))
      have hold := Aside.mk (fun b (hb : b ∈ bs) => (((hsets.out.1 b hb).1.kp ((Kp.refl wr).alloc (.map #[] 0))).grown hgs (fun e => by have := Option.some.inj e; have h2 := (hsets.out.1 b hb).2; omega)))
      have hmv : (wr.alloc (.map #[] 0)).setCell ⟨w.heap.size + 1, bs.length, none⟩ (.map (some wr.heap.size)) = (wr.setCell ⟨w.heap.size + 1, bs.length, none⟩ (.map (some wr.heap.size))).alloc (.map #[] 0) := set_alloc _ _ _ _ _ hgl
      rw [hmv] at hb3 kp2 hnew hold
      replace hb3 := Aside.mk hb3
      have hlts := Aside.mk (fun b (hb : b ∈ bs) => (hsets.out.1 b hb).1.lt)
      have hgl2 := Aside.mk hgl
      clear hb2 hgs hmv
      go_wp2
      go_roundw
      case rel =>
        refine ⟨bs ++ [wr.heap.size], by simp; omega, by simp, hb3, ⟨fun b hb => ?_, ?_⟩, kp2⟩
        · rcases List.mem_append.1 hb with hb | hb
          · exact ⟨hold.out b hb, (hsets.out.1 b hb).2⟩
          · obtain rfl := List.mem_singleton.1 hb
            exact ⟨hnew.out, hgl2.out⟩
        · refine List.nodup_append.2 ⟨hsets.out.2, by simp, fun a ha b hb => ?_⟩
          obtain rfl := List.mem_singleton.1 hb
          have := hlts.out a ha
          omega
      case measure => simp [intOf]; omega
    · obtain ⟨hbl2⟩ : Aside (bs.length = f.code.length + 1) := ⟨by omega⟩
      have hS0 : Sets wr (w.heap.size + 1) bs f.kinds.length (fun _ _ => false) := ⟨by rw [← mapRow_all bs _ hbl2]; exact hbk.out, fun j b hb => (hsets.out.1 b (List.mem_of_getElem? hb)).1, hsets.out.2⟩
      have hbg := Aside.mk (fun b (hb : b ∈ bs) => (hsets.out.1 b hb).2)
      replace hbl2 := Aside.mk hbl2
      clear hsets hbk hbl hmm hmk
      replace hS0 := Aside.mk hS0
      go_wp2
      go_loopg [5] (room f.kinds.length (fun _ _ => false) (f.code.length + 1) + 1) (fun k m wr => ∃ (b : Bool) (S : Nat → Int → Bool), m = .bool b ∧ Aside (k = room f.kinds.length S (f.code.length + 1) + (if b then 1 else 0)) ∧ Aside (Sets wr (w.heap.size + 1) bs f.kinds.length S) ∧ Aside (Sound f S ∧ (b = false → ∀ n, n < f.code.length → Done f S S n)) ∧ Aside (Kp W0 wr))
      case atStart => exact ⟨true, fun _ _ => false, rfl, ⟨rfl⟩, hS0, ⟨(fun n r h => by cases h), (fun h => by cases h)⟩, kp⟩
      case round =>
        clear hS0
        obtain ⟨b, S0, rfl, hgk, hS0, hsd, kp⟩ := hrel
        cases b with
        | false =>
          have hfin := Aside.mk (live_eq hsd.out.1 (done_closed (hsd.out.2 rfl)))
          go_wp2
          go_ret
          refine ⟨w.heap.size + 1, bs, rfl, hbl2.out, by omega, fun b hb => by have := hbg.out b hb; omega, ?_, hk0.out.trans kp.out⟩
          have e : S0 = liveB f := by
            funext n r
            exact hfin.out n r
          rw [← e]
          exact hS0.out
        | true =>
          have hscw := hscc
          obtain ⟨q, b0, b1, b2, b3, b4, b5⟩ := hbox.out _ kp.out
          go_wp2
          clear b0 b1 b2 b3 b4 b5 q
          go_loopw [5, 6] (fun m i wr => ∃ (b : Bool) (z : Int) (S : Nat → Int → Bool), m = .bool b ∧ i = .int .i64 z ∧ -1 ≤ z ∧ z < f.code.length ∧ Aside (Sets wr (w.heap.size + 1) bs f.kinds.length S) ∧ Aside (Sound f S ∧ (∀ j r, S0 j r = true → S j r = true) ∧ (b = false → S = S0) ∧ (b = true → room f.kinds.length S (f.code.length + 1) + 1 ≤ room f.kinds.length S0 (f.code.length + 1)) ∧ ∀ n : Nat, z < n → n < f.code.length → Done f S0 S n) ∧ Aside (Kp W0 wr)) (fun _ i _ => (intOf i + 1).toNat)
          case atStart => exact ⟨false, _, S0, rfl, rfl, by omega, by omega, hS0, ⟨hsd.out.1, fun _ _ h => h, fun _ => rfl, (fun h => by cases h), fun n h1 h2 => absurd h1 (by omega)⟩, kp⟩
          case round =>
            clear hsd
            obtain ⟨b, z, S, rfl, rfl, hz1, hz2, hS, hP, kp⟩ := hrel
            by_cases hz0 : 0 ≤ z
            · obtain ⟨n, rfl⟩ : ∃ n : Nat, z = n := ⟨z.toNat, by omega⟩
              have hn : n < f.code.length := by omega
              obtain ⟨y, gc, oc, hy1, hy2, hyat, rfl, hgc, h9⟩ := hone.out W0 (Kp.refl W0) n hn
              obtain ⟨bn, hbn⟩ : ∃ bn, Aside (bs[n]? = some bn) := ⟨_, ⟨List.getElem?_eq_getElem (by have := hbl2.out; omega)⟩⟩
              have hcn := hS.out.cell hbn.out
              have hSn := hS.out.set n bn hbn.out
              have hlcc : n < f.code.length + 1 := by omega
              obtain ⟨q, b0, b1, b2, b3, b4, b5⟩ := hbox.out _ kp.out
              replace hSn := Aside.mk hSn
              go_wp2_with (first | (at_len; refine wpList_lenS _ rfl _ 53 rfl Try.underlying53 bn f.kinds.length (S n) rfl hSn.out ?_) | fail)
              refine Calls.mono (hnext.out _ kp.out n y.i hy2) ?_
              clear b0 b1 b2 b3 b4 b5 q hcn
              rintro e w1 ⟨A1, c1, rfl, hA1, k1⟩
              have kp1 := Aside.mk (kp.out.trans k1)
              have hS1 := Aside.mk (hS.out.kp k1)
              have hnr := Aside.mk (next_range hf.out hy2)
              replace hA1 := Aside.mk hA1
              have hyok := Aside.mk (hf.out.at hy2)
              replace hyat := Aside.mk hyat
              have hwrs := Aside.mk (fun (V : World) => show Calls Try.prog 22 #[.agg #[.int .i64 y.i.op, .int .i64 y.i.dst, .int .i64 y.i.a, .int .i64 y.i.b, .int .u32 y.i.word, .int .u64 y.i.bits, .string y.i.name, .slice y.A y.i.args.length y.c, .int .i64 y.i.to]] V fun e w' => e = .returned (.int .i64 y.i.writes) ∧ Kp V w' from Writes_calls y V hyok.out.op)
              have hrds := Aside.mk (fun (V : World) (kV : Kp W0 V) => show Calls Try.prog 36 #[.agg #[.int .i64 y.i.op, .int .i64 y.i.dst, .int .i64 y.i.a, .int .i64 y.i.b, .int .u32 y.i.word, .int .u64 y.i.bits, .string y.i.name, .slice y.A y.i.args.length y.c, .int .i64 y.i.to]] V (IntsR V y.i.reads) from Reads_calls y V (hyat.out.kp kV) hyok.out.op)
              replace hy1 := Aside.mk hy1
              replace hy2 := Aside.mk hy2
              replace h9 := Aside.mk (fun (V : World) (kV : Kp W0 V) => FunAt.nine (w := V) (y := y) (g := gc) (o := oc + n * 9) (fun j hj => (kV.cell (p := ⟨gc, _, none⟩) hgc).trans (h9 j hj)))
              obtain ⟨nl, hnl⟩ : ∃ nl, nextI f.code.length n y.i = nl := ⟨_, rfl⟩
              rw [hnl] at hnr hA1
              rw [hnl]
              have hnll : nl.length ≤ 2 := by rw [← hnl]; unfold nextI; (repeat' split) <;> simp
              replace hnl := Aside.mk hnl
              go_wp2_with fail
              go_loopw [46] (fun i wr => ∃ (j : Nat) (T : Int → Bool), j ≤ nl.length ∧ i = .int .i64 j ∧ Aside (Sets wr (w.heap.size + 1) bs f.kinds.length (updS S n T)) ∧ Aside ((∀ r, S n r = true → T r = true) ∧ (∀ r, T r = true → LiveP f n r) ∧ ∀ (j' : Nat) (m : Int), j' < j → nl[j']? = some m → ∀ r, S0 m.toNat r = true → r ≠ y.i.writes → T r = true) ∧ Aside (Kp W0 wr) ∧ Aside (IntsAt wr A1 nl)) (fun i _ => nl.length - (intOf i).toNat)
              case atStart => exact ⟨0, S n, Nat.zero_le _, rfl, by rw [updS_same]; exact hS1, ⟨fun _ h => h, fun r h => hP.out.1 n r h, fun j' m h => absurd h (by omega)⟩, kp1, hA1⟩
              case round =>
                clear hS1 hA1 kp1
                obtain ⟨j, T, hj, rfl, hST, hT, kp, hA⟩ := hrel
                by_cases hjl : j < nl.length
                · obtain ⟨m, hm⟩ : ∃ m, Aside (nl[j]? = some m) := ⟨_, ⟨List.getElem?_eq_getElem hjl⟩⟩
                  have hmr := hnr.out m (List.mem_of_getElem? hm.out)
                  obtain ⟨ga, oa, hAe, hga, hca⟩ := hA.out.one hjl
                  rw [List.getD_eq_getElem?_getD, hm.out, Option.getD_some] at hca
                  obtain ⟨mm, rfl⟩ : ∃ mm : Nat, m = mm := ⟨m.toNat, by omega⟩
                  obtain ⟨bm, hbm⟩ : ∃ bm, Aside (bs[mm]? = some bm) := ⟨_, ⟨List.getElem?_eq_getElem (by have := hbl2.out; omega)⟩⟩
                  have hcm := hST.out.cell hbm.out
                  have hSm := Aside.mk (hST.out.set mm bm hbm.out)
                  have hmm1 : mm < f.code.length + 1 := by omega
                  obtain rfl := hAe
                  go_wp2_with (first | (at_range; refine wpList_rangeS _ rfl _ 53 rfl Try.underlying53 bm f.kinds.length _ rfl hSm.out ?_; intro w2 cnt hR hg2 hs2) | fail)
                  go_frame
                  have hS2 := Aside.mk (hST.out.grown hg2 (fun j e => by cases e))
                  have kp2 := Aside.mk (kp.out.grownX hg2 (fun j e => by cases e))
                  have hA2 := Aside.mk (hA.out.kp ⟨⟨hg2.os, hg2.tape, hg2.output, hg2.size, fun k hk => hg2.block k hk (by simp)⟩⟩)
                  have hit := Aside.mk (show W0.heap.size ≤ wr.heap.size from kp.out.size)
                  replace hR := Aside.mk hR
                  clear hg2 hs2 hca hcm hga hSm
                  generalize hitb : wr.heap.size = it at *
                  clear hitb
                  go_loopw [10] (fun _ wv => ∃ (U left : Int → Bool) (cnt : Nat), Aside (RgAt wv bm it f.kinds.length (updS S n U mm) left cnt) ∧ Aside (Sets wv (w.heap.size + 1) bs f.kinds.length (updS S n U)) ∧ Aside ((∀ r, T r = true → U r = true) ∧ (∀ r, U r = true → LiveP f n r) ∧ ∀ r, updS S n U mm r = true → left r = false → r ≠ y.i.writes → U r = true) ∧ Aside (Kp W0 wv) ∧ Aside (IntsAt wv (some ⟨ga, oa, none⟩) nl)) (fun _ wv => wv.rangeLeft bm it)
                  case atStart => exact ⟨T, _, _, hR, hS2, ⟨fun _ h => h, hT.out.2.1, fun r h1 h2 => absurd h1 (by rw [h2]; simp)⟩, kp2, hA2⟩
                  case round =>
                    clear hR hS2 kp2 hA2
                    obtain ⟨U, left, cnt, hR, hSU, hU, kp, hA⟩ := hrel
                    go_wp2_with (first | (at_next; refine wpList_nextS _ rfl _ rfl bm it f.kinds.length cnt _ left rfl hR.out ?_ ?_) | fail)
                    · intro hl0
                      replace hl0 := Aside.mk hl0
                      go_wp2
                      go_roundw
                      case rel =>
                        refine ⟨j + 1, U, by omega, by go_num, hSU, ⟨fun r h => hU.out.1 r (hT.out.1 r h), hU.out.2.1, fun j' m' hj' hm' r hr hne => ?_⟩, kp, hA⟩
                        by_cases e : j' = j
                        · subst e
                          obtain rfl := Option.some.inj (hm.out.symm.trans hm')
                          refine hU.out.2.2 r ?_ (hl0.out r) hne
                          rw [Int.toNat_natCast] at hr
                          by_cases e2 : mm = n
                          · subst e2
                            rw [updS_self]
                            exact hU.out.1 r (hT.out.1 r (hP.out.2.1 _ r hr))
                          · rw [updS_ne e2]
                            exact hP.out.2.1 _ r hr
                        · exact hU.out.1 r (hT.out.2.2 j' m' (by omega) hm' r hr hne)
                      case measure => simp [intOf]; omega
                    · intro xx w3 cnt3 hlx hSx hR3 hlt3 hg3 hs3 hen
                      obtain ⟨hap1, hap2⟩ := hR.out.apart hSU.out
                      have hS3 := Aside.mk (hSU.out.grown hg3 (fun j e => by cases e; exact ⟨hap1, hap2⟩))
                      have kp3 := Aside.mk (kp.out.grownX hg3 (fun j e => by cases e; exact hit.out))
                      have hA3 := Aside.mk (hA.out.grown hg3 hR.out.noCells)
                      replace hR3 := Aside.mk hR3
                      replace hlx := Aside.mk hlx
                      replace hSx := Aside.mk hSx
                      replace hlt3 := Aside.mk hlt3
                      have hlq := Aside.mk hR.out.left_eq
                      clear hg3 hs3 hap1 hap2 hSU kp hA hR
                      obtain ⟨q, b0, b1, b2, b3, b4, b5⟩ := hbox.out _ kp3.out
                      obtain ⟨c0, c1', c2, c3, c4, c5, c6, c7, c8⟩ := h9.out _ kp3.out
                      go_wp2_with fail
                      refine Calls.mono (hwrs.out _) ?_
                      clear b0 b1 b2 b3 b4 b5 q c0 c1' c2 c3 c4 c5 c6 c7 c8
                      rintro e w4 ⟨rfl, k4⟩
                      have hR4 := Aside.mk (hR3.out.kp k4)
                      have hS4 := Aside.mk (hS3.out.kp k4)
                      have kp4 := Aside.mk (kp3.out.trans k4)
                      have hA4 := Aside.mk (hA3.out.kp k4)
                      clear k4 hR3 hS3 kp3 hA3 hen
                      by_cases e : xx = y.i.writes
                      · have ge : (xx != y.i.writes) = false := by simp [e]
                        replace e := Aside.mk e
                        go_wp2_with fail
                        go_roundw
                        case rel =>
                          refine ⟨U, _, cnt3, hR4, hS4, ⟨hU.out.1, hU.out.2.1, fun r h1 h2 h3 => ?_⟩, kp4, hA4⟩
                          simp only [Bool.and_eq_false_iff, Bool.not_eq_false', decide_eq_true_eq] at h2
                          rcases h2 with h2 | rfl
                          · exact hU.out.2.2 r h1 h2 h3
                          · exact absurd e.out h3
                        case measure => rw [hR4.out.left_eq, hlq.out]; exact hlt3.out
                      · have ge : (xx != y.i.writes) = true := by simp [e]
                        have hcn4 := hS4.out.cell hbn.out
                        replace e := Aside.mk e
                        have hxl : Aside (LiveP f mm xx) := ⟨by
                          have h := hSx.out
                          by_cases e2 : mm = n
                          · subst e2
                            rw [updS_self] at h
                            exact hU.out.2.1 _ h
                          · rw [updS_ne e2] at h
                            exact hP.out.1 _ _ h⟩
                        have hxn : Aside (LiveP f n xx) := ⟨((live_closed f) n y.i hy2.out).2 _ (by rw [hnl.out]; exact List.mem_of_getElem? hm.out) xx (by rw [Int.toNat_natCast]; exact hxl.out) e.out⟩
                        have hxk := (live_inK hf.out hxn.out).1
                        unfold inK at hxk
                        by_cases e2 : mm = n
                        · subst e2
                          obtain rfl : bm = bn := Option.some.inj (hbm.out.symm.trans hbn.out)
                          have hux : Aside (U xx = true) := ⟨by have h := hSx.out; rw [updS_self] at h; exact h⟩
                          have hset := Aside.mk (hS4.out.set mm bm hbm.out)
                          go_wp2_with (first | (at_mapUpdate; refine wpList_sameS _ rfl _ _ _ 53 rfl Try.underlying53 bm f.kinds.length _ rfl hset.out (by omega) xx rfl rfl hSx.out ?_; go_frame) | fail)
                          go_roundw
                          case rel =>
                            refine ⟨U, _, cnt3, hR4, hS4, ⟨hU.out.1, hU.out.2.1, fun r h1 h2 h3 => ?_⟩, kp4, hA4⟩
                            simp only [Bool.and_eq_false_iff, Bool.not_eq_false', decide_eq_true_eq] at h2
                            rcases h2 with h2 | rfl
                            · exact hU.out.2.2 r h1 h2 h3
                            · exact hux.out
                          case measure => rw [hR4.out.left_eq, hlq.out]; exact hlt3.out
                        · have hset := hS4.out.set n bn hbn.out
                          rw [updS_self] at hset
                          replace hset := Aside.mk hset
                          replace e2 := Aside.mk e2
                          go_wp2_with (first | (at_mapUpdate; refine wpList_putS _ rfl _ _ _ 53 rfl Try.underlying53 bn f.kinds.length U rfl hset.out (by omega) xx rfl rfl hxk ?_; intro w5 hset5 hg5; go_frame) | fail)
                          have hS5 := hS4.out.put hbn.out hset5 hg5
                          rw [updS_twice] at hS5
                          obtain ⟨hap1, hap2⟩ := hR4.out.apart hS4.out
                          have hR5 := hR4.out.kept hg5 (fun h => e2.out ((List.getElem?_inj (List.getElem?_eq_some_iff.1 hbm.out).1 hS4.out.once).1 (hbm.out.trans (h.trans hbn.out.symm)))) (fun h => hap2 (by rw [Option.some.inj h]; exact List.mem_of_getElem? hbn.out))
                          rw [show updS S n U mm = updS S n (putS U xx) mm by rw [updS_ne e2.out, updS_ne e2.out]] at hR5
                          go_roundw
                          case rel =>
                            refine ⟨putS U xx, _, cnt3, ⟨hR5⟩, ⟨hS5⟩, ⟨fun r h => putS_old xx (hU.out.1 r h), fun r h => ?_, fun r h1 h2 h3 => ?_⟩, ⟨kp4.out.grownX hg5 (fun j h => by cases h; have := hbg.out bn (List.mem_of_getElem? hbn.out); have := hs0.out; omega)⟩, ⟨hA4.out.grown hg5 hset.out.noCells⟩⟩
                            · rcases putS_iff.1 h with rfl | h
                              · exact hxn.out
                              · exact hU.out.2.1 r h
                            · rw [updS_ne e2.out] at h1
                              simp only [Bool.and_eq_false_iff, Bool.not_eq_false', decide_eq_true_eq] at h2
                              rcases h2 with h2 | rfl
                              · exact putS_old xx (hU.out.2.2 r (by rw [updS_ne e2.out]; exact h1) h2 h3)
                              · exact putS_iff.2 (Or.inl rfl)
                          case measure => rw [hR5.left_eq, hlq.out]; exact hlt3.out
                · obtain rfl : j = nl.length := by omega
                  obtain ⟨q, b0, b1, b2, b3, b4, b5⟩ := hbox.out _ kp.out
                  obtain ⟨c0, c1', c2, c3, c4, c5, c6, c7, c8⟩ := h9.out _ kp.out
                  go_wp2_with fail
                  refine Calls.mono (hrds.out _ kp.out) ?_
                  clear b0 b1 b2 b3 b4 b5 q c0 c1' c2 c3 c4 c5 c6 c7 c8
                  rintro e w2 ⟨A2, c2, rfl, hA2, k2⟩
                  have kp2 := Aside.mk (kp.out.trans k2)
                  have hS2 := Aside.mk (hST.out.kp k2)
                  replace hA2 := Aside.mk hA2
                  have hrK := Aside.mk hyok.out.reads
                  have hTd : Aside (∀ m ∈ nextI f.code.length n y.i, ∀ r, S0 m.toNat r = true → r ≠ y.i.writes → T r = true) := ⟨fun m hm r hr hne => by
                    rw [hnl.out] at hm
                    obtain ⟨j', hj', rfl⟩ := List.mem_iff_getElem.1 hm
                    exact hT.out.2.2 j' _ hj' (List.getElem?_eq_getElem hj') r hr hne⟩
                  obtain ⟨rl, hrl⟩ : ∃ rl, y.i.reads = rl := ⟨_, rfl⟩
                  rw [hrl] at hrK hA2
                  rw [hrl]
                  have hrlv := Aside.mk (show ∀ r ∈ rl, LiveP f n r from fun r hr => ((live_closed f) n y.i hy2.out).1 r (by rw [hrl]; exact hr))
                  have hrll : rl.length ≤ 10000 := by
                    have := hl3.out y.i (List.mem_of_getElem? hy2.out)
                    rw [← hrl]
                    unfold InsV.reads
                    (repeat' split) <;> simp
                    exact this
                  replace hrl := Aside.mk hrl
                  clear hST kp hA k2
                  go_wp2_with fail
                  go_loopw [80] (fun i wv => ∃ (j : Nat) (U : Int → Bool), j ≤ rl.length ∧ i = .int .i64 j ∧ Aside (Sets wv (w.heap.size + 1) bs f.kinds.length (updS S n U)) ∧ Aside ((∀ r, T r = true → U r = true) ∧ (∀ r, U r = true → LiveP f n r) ∧ ∀ (j' : Nat) (r : Int), j' < j → rl[j']? = some r → U r = true) ∧ Aside (Kp W0 wv) ∧ Aside (IntsAt wv A2 rl)) (fun i _ => rl.length - (intOf i).toNat)
                  case atStart => exact ⟨0, T, Nat.zero_le _, rfl, hS2, ⟨fun _ h => h, hT.out.2.1, fun j' r h => absurd h (by omega)⟩, kp2, hA2⟩
                  case round =>
                    clear hS2 hA2 kp2
                    obtain ⟨j, U, hj2, rfl, hSU, hU, kp, hA⟩ := hrel
                    by_cases hjl : j < rl.length
                    · obtain ⟨m, hm⟩ : ∃ m, Aside (rl[j]? = some m) := ⟨_, ⟨List.getElem?_eq_getElem hjl⟩⟩
                      have hmr := hrK.out m (List.mem_of_getElem? hm.out)
                      unfold inK at hmr
                      obtain ⟨ga, oa, hAe, hga, hca⟩ := hA.out.one hjl
                      rw [List.getD_eq_getElem?_getD, hm.out, Option.getD_some] at hca
                      have hcn4 := hSU.out.cell hbn.out
                      have hset := hSU.out.set n bn hbn.out
                      rw [updS_self] at hset
                      replace hset := Aside.mk hset
                      obtain rfl := hAe
                      go_wp2_with (first | (at_mapUpdate; refine wpList_putS _ rfl _ _ _ 53 rfl Try.underlying53 bn f.kinds.length U rfl hset.out (by omega) m rfl rfl hmr ?_; intro w5 hset5 hg5; go_frame) | fail)
                      have hS5 := hSU.out.put hbn.out hset5 hg5
                      rw [updS_twice] at hS5
                      go_roundw
                      case rel =>
                        refine ⟨j + 1, putS U m, by omega, by go_num, ⟨hS5⟩, ⟨fun r h => putS_old m (hU.out.1 r h), fun r h => ?_, fun j' r hj' hr => ?_⟩, ⟨kp.out.grownX hg5 (fun j h => by cases h; have := hbg.out bn (List.mem_of_getElem? hbn.out); have := hs0.out; omega)⟩, ⟨hA.out.grown hg5 hset.out.noCells⟩⟩
                        · rcases putS_iff.1 h with rfl | h
                          · exact hrlv.out _ (List.mem_of_getElem? hm.out)
                          · exact hU.out.2.1 r h
                        · by_cases e : j' = j
                          · subst e
                            obtain rfl := Option.some.inj (hm.out.symm.trans hr)
                            exact putS_iff.2 (Or.inl rfl)
                          · exact putS_old m (hU.out.2.2 j' r (by omega) hr)
                      case measure => simp [intOf]; omega
                    · obtain rfl : j = rl.length := by omega
                      have hcn4 := hSU.out.cell hbn.out
                      have hset := hSU.out.set n bn hbn.out
                      rw [updS_self] at hset
                      replace hset := Aside.mk hset
                      have hdn : Aside (Done f S0 (updS S n U) n) := ⟨fun i hi => by
                        obtain rfl := Option.some.inj (hy2.out.symm.trans hi)
                        rw [updS_self]
                        refine ⟨fun r hr => ?_, fun m hm r hr hne => hU.out.1 r (hTd.out m hm r hr hne)⟩
                        rw [hrl.out] at hr
                        obtain ⟨j', hj', rfl⟩ := List.mem_iff_getElem.1 hr
                        exact hU.out.2.2 j' _ hj' (List.getElem?_eq_getElem hj')⟩
                      have hSUm : Aside (∀ j r, S j r = true → updS S n U j r = true) := ⟨updS_mono (fun _ _ h => h) (fun r h => hU.out.1 r (hT.out.1 r h))⟩
                      have hsnd : Aside (Sound f (updS S n U)) := ⟨fun j r h => by
                        by_cases e : j = n
                        · subst e
                          rw [updS_self] at h
                          exact hU.out.2.1 r h
                        · rw [updS_ne e] at h
                          exact hP.out.1 j r h⟩
                      have hall : Aside (∀ j : Nat, (n : Int) - 1 < j → j < f.code.length → Done f S0 (updS S n U) j) := ⟨fun j h1 h2 => by
                        by_cases e : j = n
                        · subst e
                          exact hdn.out
                        · exact (hP.out.2.2.2.2 j (by omega) h2).more (fun r h => hSUm.out j r h)⟩
                      cases b with
                      | true =>
                        go_wp2_with fail
                        go_roundw
                        case rel => exact ⟨true, _, _, rfl, rfl, by omega, by omega, hSU, ⟨hsnd.out, fun j r h => hSUm.out j r (hP.out.2.1 j r h), (fun h => by cases h), fun _ => Nat.le_trans (Nat.add_le_add_right (room_mono hSUm.out _) 1) (hP.out.2.2.2.1 rfl), hall.out⟩, kp⟩
                        case measure => first | (simp [intOf]; omega) | simp [intOf]
                      | false =>
                        obtain rfl : S = S0 := hP.out.2.2.1 rfl
                        have hln := run_lenS Try.underlying53 3 hset.out
                        by_cases hgt : card f.kinds.length (S n) < card f.kinds.length U
                        · have hrm := Aside.mk (room_less (K := f.kinds.length) hSUm.out (j := n) (by rw [updS_self]; exact hgt) (f.code.length + 1) (by omega))
                          go_wp2_with fail
                          go_roundw
                          case rel => exact ⟨true, _, _, rfl, rfl, by omega, by omega, hSU, ⟨hsnd.out, hSUm.out, (fun h => by cases h), fun _ => hrm.out, hall.out⟩, kp⟩
                          case measure => first | (simp [intOf]; omega) | simp [intOf]
                        · have hUe : Aside (U = S n) := ⟨(card_eq (fun r h => hU.out.1 r (hT.out.1 r h)) (by obtain ⟨_, _, _, h⟩ := hset.out; exact h) hgt).symm⟩
                          have hgt2 := hgt
                          go_wp2_with fail
                          go_roundw
                          case rel => exact ⟨false, _, _, rfl, rfl, by omega, by omega, hSU, ⟨hsnd.out, hSUm.out, fun _ => by rw [hUe.out, updS_same], (fun h => by cases h), hall.out⟩, kp⟩
                          case measure => first | (simp [intOf]; omega) | simp [intOf]
            · obtain rfl : z = -1 := by omega
              go_wp2
              go_roundg (room f.kinds.length S (f.code.length + 1) + (if b then 1 else 0))
              case measure =>
                rw [hgk.out]
                cases b with
                | true => have := hP.out.2.2.2.1 rfl; simp; omega
                | false => have := hP.out.2.2.1 rfl; rw [this]; simp
              case rel =>
                refine ⟨b, S, rfl, ⟨rfl⟩, hS, ⟨hP.out.1, fun hb n hn => ?_⟩, kp⟩
                have := hP.out.2.2.2.2 n (by omega) hn
                rw [← hP.out.2.2.1 hb] at this
                exact this
end Go.Proofs.Ytkianddaccoeiaa
