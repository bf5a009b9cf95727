/- Contracts: the facts that matches use. No condition. -/
import Derived.Test.YtjkphmbjdleppaaMr
import Derived.Test.YtjkphmbjdleppaaMt
import Derived.Test.YtjkphmbjdleppaaVo
namespace Go.Proofs.Ytjkphmbjdleppaa
open Go Go.RowKit VC
set_option linter.unusedSimpArgs false
set_option linter.unusedVariables false

/-- A slice of facts, as an element. -/
def repF (w : World) (cs : List Value) (l : List Atm) : Prop := ∃ v, cs = [v] ∧ SlA w v l
theorem repF_mono : Mono repF := fun w w' cs x hg ⟨v, h1, h2⟩ => ⟨v, h1, h2.gr hg⟩
abbrev SlF (w : World) (v : Value) (L : List (List Atm)) : Prop := SlX 1 repF w v L
theorem SlF.gr {w w' : World} {v : Value} {L : List (List Atm)} (h : SlF w v L) (hf : Grow w w') : SlF w' v L := h.grow repF_mono hf
theorem SlF.rd1 {w : World} {v : Value} {L : List (List Atm)} (h : SlF w v L) {i : Nat} {j : Int} (hj : j = (i : Int)) (hi : i < L.length) {K : Value → Prop} (hk : ∀ u, SlA w u L[i] → K u) :
    ∃ (a : Addr) (m c : Nat), v = .slice (some a) m c ∧ ((0 : Int) ≤ j ∧ j < (m : Int)) ∧ ∃ u : Value, w.cell? (a.add (Int.toNat j * 1)) = some u ∧ K u := by
  obtain ⟨a, m, c, e, hb, cs, hl, hcs, u, rfl, hu⟩ := h.rd hj hi (K := fun cs => ∃ u, cs = [u] ∧ SlA w u L[i]) fun cs _ hr => hr
  have := hcs 0 u rfl
  rw [add_add, Nat.add_zero] at this
  exact ⟨a, m, c, e, hb, u, this, hk u hu⟩
/-- A slice as it was read before. -/
theorem SlX.pin {α : Type} {k : Nat} {rep : World → List Value → α → Prop} {w0 w : World} {v : Value} {xs : List α} (h : SlX k rep w0 v xs) (g : Grow w0 w) : SlX k (fun _ cs x => rep w0 cs x) w v xs := by
  obtain ⟨a, c, e, h1, h2, h3, h4⟩ := h.ex
  exact ⟨a, c, e, h1, h2, h3, fun i hi => by
    obtain ⟨b, cs, e1, e2, e3, e4⟩ := h4 i hi
    exact ⟨b, cs, e1, e2, fun t u ht => g.cell (e3 t u ht), e4⟩⟩
theorem SlF.rdP {w0 w : World} {v : Value} {L : List (List Atm)} (h : SlF w0 v L) (g : Grow w0 w) {i : Nat} {j : Int} (hj : j = (i : Int)) (hi : i < L.length) {K : Value → Prop} (hk : ∀ u, SlA w0 u L[i] → K u) :
    ∃ (a : Addr) (m c : Nat), v = .slice (some a) m c ∧ ((0 : Int) ≤ j ∧ j < (m : Int)) ∧ ∃ u : Value, w.cell? (a.add (Int.toNat j * 1)) = some u ∧ K u := by
  obtain ⟨a, m, c, e, hb, cs, hl, hcs, u, rfl, hu⟩ := (SlX.pin h g).rd hj hi (K := fun cs => ∃ u, cs = [u] ∧ SlA w0 u L[i]) fun cs _ hr => hr
  have := hcs 0 u rfl
  rw [add_add, Nat.add_zero] at this
  exact ⟨a, m, c, e, hb, u, this, hk u hu⟩
theorem SlA.locP {P : Program} {w0 w : World} {v : Value} {l : List Atm} (h : SlA w0 v l) (g : Grow w0 w) {i : Nat} {j : Int} (hj : j = (i : Int)) (hi : i < l.length) {zs : Array Value} (hz : zs.size = 2) {t : TypeId} {K : World → Prop}
    (hk : ∀ w2 u, Grow w w2 → w.heap.size < w2.heap.size → SlI w0 u l[i].2 → w2.cell? (Addr.add ⟨w.heap.size, 0, none⟩ 0) = some (.int .i64 l[i].1) → w2.cell? (Addr.add ⟨w.heap.size, 0, none⟩ 1) = some u → K w2) :
    ∃ (a : Addr) (m c : Nat), v = .slice (some a) m c ∧ ((0 : Int) ≤ j ∧ j < (m : Int)) ∧ ∃ cs : List Value, cs.length = 2 ∧ (∀ t u, cs[t]? = some u → w.cell? (Addr.add (a.add (Int.toNat j * 2)) t) = some u) ∧
      ∀ w1, w1 = w.alloc (.cells zs t) → ∃ cs' : Array Value, (Value.agg cs.toArray) = Value.agg cs' ∧ cs'.size = 2 ∧ ∃ w2 : World, (storeCells ⟨w.heap.size, 0, none⟩ cs'.toList).run P w1 = .ok () w2 ∧ K w2 := by
  refine SlX.rd (SlX.pin h g) hj hi fun cs hl hr w1 hw1 => ?_
  obtain ⟨u, rfl, hu⟩ := hr
  have := setR (P := P) (cs := [.int .i64 l[i].1, u]) hw1 (by rw [hz]; rfl) (by
    intro y hy
    simp at hy
    rcases hy with rfl | rfl
    · rfl
    · exact hu.one.2) (K := K) fun w2 hg hs hc => hk w2 u hg hs hu (hc 0 _ rfl) (hc 1 _ rfl)
  rw [hz] at this
  exact this
def redL (b : List Atm) (ms : List Vals) : List (List Atm) := b.map fun a => srtF (ms.map fun m => imgA m a)
def redO (h : List Int) (b l : List Atm) : Int × List (List Atm) := if (askO h b l).1 = 0 then (0, redL b (askO h b l).2) else ((askO h b l).1, [])
theorem el_facts : ElT Try.prog 53 26 1 24 (.slice none 0 0) := ⟨by kernel_rfl, ⟨Try.t26, by kernel_rfl, by kernel_rfl, by kernel_rfl, by kernel_rfl⟩, rfl⟩
theorem SlA.sl {w : World} {v : Value} {l : List Atm} (h : SlA w v l) : ∃ a n c, v = Value.slice a n c := by
  obtain ⟨a, c, e, _⟩ := h.ex
  exact ⟨a, _, c, e⟩
theorem Own.slB {w : World} {B : Nat} {e : TypeId} {O n : Nat} {vs : List Value} (h : Own w B e 1 (.slice (some ⟨O, 0, none⟩) n n) n vs) (hs : ∀ u ∈ vs, ∃ a n c, u = Value.slice a n c) : SlB w O := by
  rcases h.2 with ⟨h1, _⟩ | ⟨g', cap', cur, he, hb, hgg, hnc, hcm, hcs, htake⟩
  · cases h1
  · simp only [Value.slice.injEq, Option.some.injEq, Addr.mk.injEq, and_true, true_and] at he
    obtain ⟨rfl, rfl⟩ := he
    refine ⟨cur, _, _, hgg, fun u hu => hs u ?_⟩
    rw [← htake, List.take_of_length_le (by simp; omega)]
    exact hu
/-- What holds between the rounds over the atoms. -/
structure RdO (O n : Nat) (F : Nat → List Atm) (i : Nat) (w' : World) (vs : List Value) : Prop where
  len : vs.length = n
  own : Own w' O 26 1 (.slice (some ⟨O, 0, none⟩) n n) n vs
  done : ∀ j (hj : j < vs.length), j < i → SlA w' vs[j] (F j)
  rest : ∀ j, i ≤ j → j < n → vs[j]? = some (.slice none 0 0)
  sl : ∀ u ∈ vs, ∃ a n c, u = Value.slice a n c
/-- Between the rounds over the matches. -/
structure RdM (w27 : World) (O n i : Nat) (a : Atm) (ms : List Vals) (vs : List Value) (k : Nat) (w' : World) (cv : Value) : Prop where
  own : Own w' O 26 1 (.slice (some ⟨O, 0, none⟩) n n) n (vs.set i cv)
  cur : OwnX (fun b => b = O) 2 repA w' w27.heap.size 46 cv ((ms.take k).map fun m => imgA m a)
  fr : Fr (fun b => b = O ∨ w27.heap.size ≤ b) w27 w'
/-- Between the rounds over the arguments. -/
structure RdA (w46 : World) (C : Nat) (a : Atm) (m : Vals) (p : Nat) (w' : World) (av : Value) : Prop where
  rc : RecV w' C [.int .i64 a.1, av]
  own : OwnI w' w46.heap.size av ((a.2.take p).map (ofV m))
  fr : Fr (fun b => b = C ∨ w46.heap.size ≤ b) w46 w'
theorem reduce_c {w : World} {hv bv fv : Value} {h : List Int} {b l : List Atm} (hh : SlI w hv h) (hb : SlA w bv b) (hl : SlA w fv l) : Calls Try.prog 27 #[.agg #[hv, bv], fv] w fun e w' => ∃ v, e = .returned (.tuple #[v, .int .i64 (redO h b l).1]) ∧ SlF w' v (redO h b l).2 ∧ Grow w w' := by
  refine f27_calls _ _ ?_
  refine ⟨_, rfl, fun w1 hw1 => ?_⟩
  have g1 := alloc_grow hw1
  refine ⟨[_, _], rfl, two (boxc hw1 0 _ rfl) (boxc hw1 1 _ rfl), (asked_c (hh.grow g1) (hb.gr g1) (hl.gr g1)).mono ?_⟩
  rintro e w4 ⟨v, rfl, hs, g4⟩
  have g04 := g1.trans g4
  by_cases h0 : (askO h b l).1 = 0
  rotate_left
  · have e2 : redO h b l = ((askO h b l).1, []) := by rw [redO, if_neg h0]
    rw [e2]
    exact ⟨_, _, rfl, cT (by rw [decide_eq_false h0]; rfl) ⟨_, rfl, SlX.nil _, g04⟩⟩
  have e2 : redO h b l = (0, redL b (askO h b l).2) := by rw [redO, if_pos h0]
  obtain ⟨ms, hms⟩ : ∃ ms, ms = (askO h b l).2 := ⟨_, rfl⟩
  obtain ⟨q1, f1, r1⟩ := askO_ok h0
  have hml := runF_len r1 (okQ_len q1).1
  rw [← hms] at hs hml
  rw [e2, ← hms, h0]
  have hT := okB_term q1
  have hbl := okQ_len q1
  have oA : ∀ a ∈ b, okA a = true := fun a ha => by
    simp only [okQ, Bool.and_eq_true, List.all_eq_true] at q1
    exact q1.1.2 a ha
  refine ⟨_, _, rfl, cF rfl ⟨bv, g4.cell (boxc hw1 1 _ rfl), SlX.ln (hb.gr g04) ⟨by omega, fun w12 hw12 => ?_⟩⟩⟩
  have g12 := alloc_grow hw12
  have g012 := g04.trans g12
  have s12 := alloc_size hw12
  rw [Int.toNat_natCast]
  obtain ⟨O, hO⟩ : ∃ O, O = w4.heap.size := ⟨_, rfl⟩
  rw [← hO]
  have hmade : Own w12 O 26 1 (.slice (some ⟨O, 0, none⟩) b.length b.length) b.length (List.replicate b.length (.slice none 0 0)) := by
    have := Own.made (B := O) (n := b.length) hw12 (by rw [Int.toNat_natCast, Nat.mul_one]) (by omega) (by omega)
    rwa [← hO] at this
  refine ⟨bv, (g4.trans g12).cell (boxc hw1 1 _ rfl), SlX.ln (hb.gr g012) ?_⟩
  refine ⟨fun t w' => ∃ (i : Nat) (vs : List Value), t = i ∧ i ≤ b.length ∧ RdO O b.length (fun j => (redL b ms).getD j []) i w' vs ∧ Fr (fun k => O ≤ k) w12 w', fun t _ => b.length - t.toNat,
    ⟨0, _, rfl, by omega, ⟨by simp, hmade, fun j hj h => by omega, fun j _ hj => by simp [hj], fun u hu => ⟨none, 0, 0, (List.mem_replicate.1 hu).2⟩⟩, Fr.refl _ _⟩, ?_⟩
  rintro - t w21 ⟨i, vs, rfl, hi, hI, hf21⟩
  have gO : ∀ {w'}, Fr (fun k => O ≤ k) w12 w' → Grow w4 w' := fun hf => g12.fr hf fun k hk e => by omega
  have g21 := gO hf21
  have hvl := hI.len
  refine condD (fun hlt => ?_) (fun hge => ?_)
  · have hil : i < b.length := by omega
    obtain ⟨a, ha⟩ : ∃ a, a = b[i] := ⟨_, rfl⟩
    have hTa : TermA a := ha ▸ hT _ (List.getElem_mem hil)
    have hal : a.2.length ≤ 3 := (okA_iff.1 (ha ▸ oA _ (List.getElem_mem hil))).2.2.2.1
    refine SlX.loc (hb.gr (g04.trans g21)) rfl hil rfl fun w27 u g27 s27 hu c0 c1 => ?_
    rw [← ha] at hu c0
    have hs21 := hf21.size
    have hO27 : O < w27.heap.size := by have := g27.size; omega
    have hcur : vs[i]? = some (.slice none 0 0) := hI.rest i (Nat.le_refl _) hil
    have hset : vs.set i (.slice none 0 0) = vs := by
      apply List.ext_getElem?
      intro j
      rw [List.getElem?_set]
      split
      · rename_i e
        subst e
        rw [hcur]; simp; omega
      · rfl
    have own27 := Own.grow hI.own g27
    refine SlR.ln (SlR.grow hs (g21.trans g27)) ⟨fun t w' => ∃ (k : Nat) (cv : Value), t = k ∧ k ≤ ms.length ∧ RdM w27 O b.length i a ms vs k w' cv, fun t _ => ms.length - t.toNat,
      ⟨0, .slice none 0 0, rfl, by omega, ⟨by rw [hset]; exact own27, OwnX.nil _ _ _, Fr.refl _ _⟩⟩, ?_⟩
    rintro - t w36 ⟨k, cv, rfl, hk, hM⟩
    have gM : ∀ {w'}, Fr (fun b => b = O ∨ w27.heap.size ≤ b) w27 w' → Grow w4 w' := fun hf => (g21.trans g27).fr hf fun k hk e => by omega
    have cM : ∀ {w'}, Fr (fun b => b = O ∨ w27.heap.size ≤ b) w27 w' → ∀ {x : Addr} {y : Value}, w27.cell? x = some y → x.block < w27.heap.size → x.block ≠ O → w'.cell? x = some y := fun {w'} hf {x y} hc h1 h2 => hf.cell hc (by omega)
    have blkA : ∀ j : Nat, (Addr.add ⟨w21.heap.size, 0, none⟩ j).block = w21.heap.size := fun j => by rw [add_block]
    have hlenset : ∀ cv, (vs.set i cv).length = b.length := fun cv => by simp [hvl]
    have gcur : ∀ cv : Value, (vs.set i cv)[i]? = some cv := fun cv => by rw [List.getElem?_set_self (by omega)]
    have rdO : ∀ {w'} {cv : Value}, Own w' O 26 1 (.slice (some ⟨O, 0, none⟩) b.length b.length) b.length (vs.set i cv) → w'.cell? (Addr.add ⟨O, 0, none⟩ (Int.toNat (i : Int) * 1)) = some cv := fun {w' cv} ho => by
      rw [Int.toNat_natCast, Nat.mul_one]
      exact World.ownsRow.cells (g := O) ho rfl i cv (gcur cv)
    have aO : Addr.add ⟨O, 0, none⟩ (Int.toNat (i : Int) * 1) = ⟨O, i, none⟩ := by rw [Int.toNat_natCast, Nat.mul_one, Addr.add0]
    have hsA : ∀ {w'}, Fr (fun b => b = O ∨ w27.heap.size ≤ b) w27 w' → SlI w' u a.2 := fun {w'} hf => SlI.skip (Own.slB own27 hI.sl) hu (hf.mono fun k hk e => by omega)
    refine condD (fun hlt2 => ?_) (fun hge2 => ?_)
    · have hkl : k < ms.length := by omega
      refine SlV.loc (SlR.grow hs (gM hM.fr)) rfl hkl rfl fun w42 g42 s42 hV => ?_
      have hf42 := hM.fr.trans (Fr.of_grow g42)
      refine ⟨a.1, cM hf42 c0 (by rw [blkA]; omega) (by rw [blkA]; omega), fun w45 hw45 => RecV.init (cs := [.int .i64 a.1, .slice none 0 0]) hw45 rfl (by
        intro y hy
        simp at hy
        rcases hy with rfl | rfl <;> rfl) fun w46 g46 s46 hC => ?_⟩
      have hf46 := hf42.trans (Fr.of_grow g46)
      refine ⟨u, cM hf46 c1 (by rw [blkA]; omega) (by rw [blkA]; omega), (hsA hf46).ln ?_⟩
      refine ⟨fun t w' => ∃ (p : Nat) (av : Value), t = p ∧ p ≤ a.2.length ∧ RdA w46 w42.heap.size a ms[k] p w' av, fun t _ => a.2.length - t.toNat, ⟨0, _, rfl, by omega, ⟨hC, by simpa [OwnI] using Own.nil w46 w46.heap.size 3 1, Fr.refl _ _⟩⟩, ?_⟩
      rintro - t w56 ⟨p, av, rfl, hp, hA⟩
      have hs36 := hM.fr.size
      have hs42 := g42.size
      have gA : ∀ {w'}, Fr (fun b => b = w42.heap.size ∨ w46.heap.size ≤ b) w46 w' → Grow w42 w' := fun hf => g46.fr hf fun k hk e => by omega
      have hf56 : Fr (fun b => b = O ∨ w27.heap.size ≤ b) w27 w56 := hf42.trans (Fr.of_grow (gA hA.fr))
      refine condD (fun hlt3 => ?_) (fun hge3 => ?_)
      · have hpl : p < a.2.length := by omega
        refine (hsA hf56).rd rfl hpl fun m => ?_
        obtain ⟨E0, hE0⟩ : ∃ E0, E0 = dr w56 m := ⟨_, rfl⟩
        have gm : Grow w56 E0 := by rw [hE0]; exact (Grow.refl w56).dr m
        rw [← hE0]
        have r0 : Grow E0 E0 := Grow.refl _
        have cF1 : ∀ {E}, Grow E0 E → E.cell? (Addr.add ⟨w42.heap.size, 0, none⟩ 1) = some av := fun g => (gm.trans g).cell (hA.rc.cell (j := 1) rfl)
        have vv : ∀ {E}, Grow E0 E → ∀ (t : Nat) (v : Value), (encV ms[k])[t]? = some v → E.cell? (Addr.add ⟨w36.heap.size, 0, none⟩ t) = some v := fun g => (((hV.grow (gA hA.fr)).grow gm).grow g).all
        have callV : ∀ {Q : Ending → World → Prop}, (∀ E, Grow E0 E → Q (.returned (.int .i64 (ofV ms[k] a.2[p]))) E) → Calls Try.prog 59 #[.agg (encV ms[k]).toArray, .int .i64 a.2[p]] E0 Q := fun hq => (valOf_c (hTa _ (List.getElem_mem hpl))).mono (by
          rintro e E ⟨rfl, g⟩
          exact hq E g)
        have leaf : ∀ {E wl : World}, Grow E0 E → wl = E.alloc (.cells #[.int .i64 (ofV ms[k] a.2[p])] 3) → PApp Try.prog 22 22 av (.slice (some ⟨E.heap.size, 0, none⟩) 1 1) wl fun t w69 => oneV t ∧ (∃ old, w69.cell? (Addr.add ⟨w42.heap.size, 0, none⟩ 1) = some old) ∧ w69.frozen? (Addr.add ⟨w42.heap.size, 0, none⟩ 1) = false ∧ ∀ w70, w70 = w69.setCell (Addr.add ⟨w42.heap.size, 0, none⟩ 1) t →
            inR ((p : Int) + 1) ∧ ((∃ (p' : Nat) (av : Value), (p : Int) + 1 = p' ∧ p' ≤ a.2.length ∧ RdA w46 w42.heap.size a ms[k] p' w70 av) ∧ a.2.length - Int.toNat ((p : Int) + 1) < a.2.length - Int.toNat (p : Int)) := fun {E wl} g hwl => by
          have gl := alloc_grow hwl
          refine papp1 el_int hwl (Own.grow hA.own (gm.trans g)) rfl (by have := hA.fr.size; have := (gm.trans g).size; omega) (by simp; omega) (by omega) ?_
          intro v2 w69 ho2 hf2 _
          have hne : ∀ k, some k = av.ownBlock → w46.heap.size ≤ k := fun k e => (Own.lt hA.own e.symm).1
          have hr2 : RecV w69 w42.heap.size [.int .i64 a.1, av] := (hA.rc.grow ((gm.trans g).trans gl)).fr hf2 fun e => by have := hne _ e; omega
          refine ⟨Own.one ho2, ⟨_, hr2.cell (j := 1) rfl⟩, hr2.free 1, fun w70 hw70 => ⟨by unfold inR; omega, ⟨p + 1, v2, by omega, by omega, ⟨hr2.set hw70, ?_, ?_⟩⟩, by omega⟩⟩
          · have h9 : OwnI w69 w46.heap.size v2 ((a.2.take (p + 1)).map (ofV ms[k])) := by
              rw [List.take_succ_eq_append_getElem hpl, List.map_append]
              unfold OwnI
              rw [List.length_append, List.map_append]
              exact ho2
            exact Own.fr h9 (RecV.set_fr hw70) fun k hk e => by have := (Own.lt h9 hk).1; omega
          · exact hA.fr.trans ((Fr.of_grow ((gm.trans g).trans gl)).trans ((hf2.mono fun k _ e => .inr (hne k e)).trans ((RecV.set_fr hw70).mono fun k _ e => .inl e)))
        repeat' first
          | refine And.intro ?_ ?_
          | refine ⟨_, cF1 r0, ?_⟩
          | refine ⟨_, encV_len ms[k], vv r0, ?_⟩
          | (refine callV ?_; intro E gE; refine ⟨_, rfl, ?_⟩)
          | (intro wl hwl; exact leaf ‹Grow E0 _› hwl)
          | refine ⟨_, cF1 ‹Grow E0 _›, ?_⟩
          | (intro wl hwl; refine ⟨_, cF1 (Grow.trans ‹Grow E0 _› (alloc_grow hwl)), ?_⟩; exact leaf ‹Grow E0 _› hwl)
      · have hpl : p = a.2.length := by omega
        subst hpl
        have hown := hA.own
        rw [List.take_length] at hown
        intro m
        obtain ⟨E0, hE0⟩ : ∃ E0, E0 = dr w56 m := ⟨_, rfl⟩
        have gm : Grow w56 E0 := by rw [hE0]; exact (Grow.refl w56).dr m
        rw [← hE0]
        have r0 : Grow E0 E0 := Grow.refl _
        have g36 : Grow w36 E0 := (g42.trans (gA hA.fr)).trans gm
        have oc : ∀ {E}, Grow E0 E → E.cell? (Addr.add ⟨O, 0, none⟩ (Int.toNat (i : Int) * 1)) = some cv := fun g => rdO (Own.grow hM.own (g36.trans g))
        have ff : ∀ (t : Nat) (v : Value), [Value.int .i64 a.1, av][t]? = some v → E0.cell? (Addr.add ⟨w42.heap.size, 0, none⟩ t) = some v := (hA.rc.grow gm).all
        have hcvO : ∀ k, cv.ownBlock = some k → w27.heap.size ≤ k ∧ k < w36.heap.size := fun k hk => hM.cur.lt hk
        have leaf2 : ∀ {wl : World}, wl = E0.alloc (.cells #[.int .i64 a.1, av] 46) → PApp Try.prog 26 26 cv (.slice (some ⟨E0.heap.size, 0, none⟩) 1 1) wl fun t w102 => ∃ (x : Addr) (nn cc : Nat), (Value.slice (some ⟨O, 0, none⟩) b.length b.length) = Value.slice (some x) nn cc ∧ ((0 : Int) ≤ (i : Int) ∧ (i : Int) < (nn : Int)) ∧ oneV t ∧ (∃ old, w102.cell? (x.add (Int.toNat (i : Int) * 1)) = some old) ∧ w102.frozen? (x.add (Int.toNat (i : Int) * 1)) = false ∧ ∀ w106, w106 = w102.setCell (x.add (Int.toNat (i : Int) * 1)) t →
            inR ((k : Int) + 1) ∧ ((∃ (k' : Nat) (cv : Value), (k : Int) + 1 = k' ∧ k' ≤ ms.length ∧ RdM w27 O b.length i a ms vs k' w106 cv) ∧ ms.length - Int.toNat ((k : Int) + 1) < ms.length - Int.toNat (k : Int)) := fun {wl} hwl => by
          have gl := alloc_grow hwl
          have g36l := g36.trans gl
          have hsl : w46.heap.size ≤ w56.heap.size := hA.fr.size
          refine pappX1 el_fact (by omega) (cs := [.int .i64 a.1, av]) (y := imgA ms[k] a) (hM.cur.grow g36) hwl (elx_own (Own.grow hown gm) (fun b' hb' => by have hb' : b' = O := hb'; omega) fun b' hb' => by have := (hcvO b' hb').2; omega) (by have := g36.size; omega) (by simp; omega) (by omega) ?_
          intro v2 w102 ho2 hf2 _ hbk
          have hneO : ∀ k, some k = cv.ownBlock → k ≠ O := fun k e => by have := (hcvO k e.symm).1; omega
          have hO2 : Own w102 O 26 1 (.slice (some ⟨O, 0, none⟩) b.length b.length) b.length (vs.set i cv) := Own.fr (Own.grow hM.own g36l) hf2 fun k hk e => by
            have hk : O = k := Option.some.inj hk
            exact hneO k e hk.symm
          refine ⟨_, _, _, rfl, ⟨by omega, by omega⟩, ho2.one, ?_⟩
          rw [aO]
          refine ⟨(Own.wr hO2 hil).1, (Own.wr hO2 hil).2, fun w106 hw106 => ⟨by unfold inR; omega, ⟨k + 1, v2, by omega, by omega, ⟨?_, ?_, ?_⟩⟩, by omega⟩⟩
          · have := Own.set hO2 hil hw106
            rwa [List.set_set] at this
          · have h9 : OwnX (fun b => b = O) 2 repA w102 w27.heap.size 46 v2 ((ms.take (k + 1)).map fun m => imgA m a) := by
              rw [List.take_succ_eq_append_getElem hkl, List.map_append]
              exact ho2
            exact OwnX.fr h9 (set_fr hw106) (fun b' e => e) fun k hk e => by have := (h9.lt hk).1; have e : k = O := e; omega
          · refine hM.fr.trans ((Fr.of_grow g36l).trans ((hf2.mono fun k _ e => .inr (hcvO k e.symm).1).trans ((set_fr hw106).mono fun k _ e => .inl e)))
        refine ⟨_, _, _, rfl, ⟨by omega, by omega⟩, ?_⟩
        repeat' first
          | refine And.intro ?_ ?_
          | refine ⟨_, oc r0, ?_⟩
          | refine ⟨[_, _], rfl, ff, ?_⟩
          | (refine bs1 el_fact (by omega) (by omega) (cs := #[.int .i64 a.1, av]) rfl _ fun wl hwl => ?_
             first
               | exact leaf2 hwl
               | (refine ⟨_, oc (alloc_grow hwl), ?_⟩; exact leaf2 hwl))
    · have hkl : k = ms.length := by omega
      subst hkl
      have hcur2 := hM.cur
      rw [List.take_length] at hcur2
      refine ⟨_, _, _, rfl, ⟨by omega, by omega⟩, cv, rdO hM.own, (once_c hcur2.slX (by simp; omega)).mono ?_⟩
      rintro e w130 ⟨v2, l2, rfl, hO2, ho2, g130⟩
      have hl2 : l2 = srtF (ms.map fun m => imgA m a) := srt_eq key_A hO2.inc hO2.mem
      have own130 := Own.grow hM.own g130
      refine ⟨_, rfl, _, _, _, rfl, ⟨by omega, by omega⟩, ho2.one, ?_⟩
      rw [aO]
      refine ⟨(Own.wr own130 hil).1, (Own.wr own130 hil).2, fun w136 hw136 => ⟨by unfold inR; omega, ⟨i + 1, vs.set i v2, by omega, by omega, ⟨by simp [hvl], ?_, fun j hj hji => ?_, fun j hj hjb => ?_, fun y hy => ?_⟩, ?_⟩, by dsimp only; omega⟩⟩
      · have := Own.set own130 hil hw136
        rwa [List.set_set] at this
      · have hcsl : ∀ y ∈ vs.set i cv, ∃ a n c, y = Value.slice a n c := fun y hy => by
          rcases List.mem_or_eq_of_mem_set hy with hy | rfl
          · exact hI.sl y hy
          · exact SlA.sl hcur2.slX
        have sb130 : SlB w130 O := Own.slB own130 hcsl
        have hj' : j < vs.length := by simpa using hj
        by_cases e : i = j
        · subst e
          simp only [List.getElem_set_self]
          have h9 : SlA w130 v2 l2 := ho2.slX
          rw [hl2] at h9
          have e9 : (redL b ms).getD i [] = srtF (ms.map fun m => imgA m a) := by
            unfold redL
            rw [List.getD, List.getElem?_map, List.getElem?_eq_getElem hil, ha]
            rfl
          show SlA w136 v2 ((redL b ms).getD i [])
          rw [e9]
          exact SlA.skip sb130 h9 (set_fr hw136)
        · rw [List.getElem_set_ne e]
          have h1 := (hI.done j hj' (by omega)).gr g27
          have h2 := SlA.skip (Own.slB own27 hI.sl) h1 (hM.fr.mono fun k hk e => by omega)
          exact SlA.skip sb130 (SlA.gr h2 g130) (set_fr hw136)
      · rw [List.getElem?_set_ne (by omega)]
        exact hI.rest j (by omega) hjb
      · rcases List.mem_or_eq_of_mem_set hy with hy | rfl
        · exact hI.sl y hy
        · exact SlA.sl (ho2.slX : SlA w130 y l2)
      · exact hf21.trans ((Fr.of_grow g27).trans ((hM.fr.mono fun k hk e => by omega).trans ((Fr.of_grow g130).trans ((set_fr hw136).mono fun k _ e => by have e : k = O := e; omega))))
  · have hil : i = b.length := by omega
    subst hil
    refine ⟨_, rfl, ?_, g04.trans g21⟩
    have hc := hI.own.slC
    have hq : SlX 1 repF w21 (.slice (some ⟨O, 0, none⟩) b.length b.length) ((List.ofFn fun j : Fin vs.length => ([vs[j.1]], (redL b ms).getD j.1 [])).map Prod.snd) := by
      refine SlX.of_cells (fun p hp => ?_) ?_
      · obtain ⟨j, rfl⟩ := List.mem_ofFn.1 hp
        exact ⟨rfl, _, rfl, hI.done j.1 j.2 (by have := j.2; omega)⟩
      · have e1 : (List.ofFn fun j : Fin vs.length => ([vs[j.1]], (redL b ms).getD j.1 [])).length = b.length := by simp [hvl]
        have e2 : (List.ofFn fun j : Fin vs.length => ([vs[j.1]], (redL b ms).getD j.1 [])).flatMap Prod.fst = vs := by
          have : ∀ (L : List (List Value × List Atm)) (us : List Value), L.map Prod.fst = us.map (fun u => [u]) → L.flatMap Prod.fst = us := by
            intro L
            induction L with
            | nil => intro us h; cases us with
              | nil => rfl
              | cons a r => simp at h
            | cons p r ih =>
              intro us h
              cases us with
              | nil => simp at h
              | cons a s =>
                simp only [List.map_cons, List.cons.injEq] at h
                rw [List.flatMap_cons, ih s h.2, h.1]; rfl
          refine this _ vs ?_
          apply List.ext_getElem (by simp)
          intro j h1 h2
          simp
        rw [e1, e2]
        exact hc
    have e3 : (List.ofFn fun j : Fin vs.length => ([vs[j.1]], (redL b ms).getD j.1 [])).map Prod.snd = redL b ms := by
      apply List.ext_getElem
      · simp [redL, hvl]
      · intro j h1 h2
        have h2' : j < b.length := by simpa [redL] using h2
        simp [redL, h2']
    rwa [e3] at hq
end Go.Proofs.Ytjkphmbjdleppaa
