/- Contracts: Hom and Contained of the program; the reference's has, IsHom, possible. No condition. -/
import Derived.Test.YtjkphmbjdleppaaNa
namespace Go.Proofs.Ytjkphmbjdleppaa
open Go Go.RowKit VC
set_option linter.unusedSimpArgs false
set_option linter.unusedVariables false

theorem HomV.ne {w : World} {v : Value} {o : Option (List Int)} (h : HomV w v o) {ox : Operand} {c : Value} : PBinR Try.prog .neq 22 ox (.const c) v (.slice none 0 0) o.isSome := by
  cases o with
  | none =>
    obtain rfl : v = .slice none 0 0 := h
    exact nilNe (e := 3) (by kernel_rfl)
  | some x =>
    obtain ⟨-, a, n, c', rfl⟩ := h
    exact nilNe (e := 3) (by kernel_rfl)
theorem HomV.eq {w : World} {v : Value} {o : Option (List Int)} (h : HomV w v o) {ox : Operand} {c : Value} : PBinR Try.prog .eql 22 ox (.const c) v (.slice none 0 0) o.isNone := by
  cases o with
  | none =>
    obtain rfl : v = .slice none 0 0 := h
    exact nilEq (e := 3) (by kernel_rfl)
  | some x =>
    obtain ⟨-, a, n, c', rfl⟩ := h
    exact nilEq (e := 3) (by kernel_rfl)
theorem HomV.sl {w : World} {v : Value} {o : Option (List Int)} (h : HomV w v o) : SlI w v (o.getD []) := by
  cases o with
  | none =>
    obtain rfl : v = .slice none 0 0 := h
    exact SlI.nil w
  | some x => exact h.1
/-- The documented code of Hom. -/
def homE (hp : List Int) (bp : List Atm) (hq : List Int) (bq : List Atm) (o : Option (List Int)) : Int := if okPQ hp bp hq bq = true then (if o.isSome = true then 0 else 5) else 2
/-- The documented answer of Hom. -/
def HomA (hp : List Int) (bp : List Atm) (hq : List Int) (bq : List Atm) (o : Option (List Int)) : Prop := if okPQ hp bp hq bq = true then FirstL (IsHom hp bp hq bq) o else o = none
theorem HomA.uniq {hp : List Int} {bp : List Atm} {hq : List Int} {bq : List Atm} {o o' : Option (List Int)} (h : HomA hp bp hq bq o) (h' : HomA hp bp hq bq o') : o = o' := by
  unfold HomA at h h'
  by_cases hc : okPQ hp bp hq bq = true
  · rw [if_pos hc] at h h'
    exact FirstL.uniq h h'
  · rw [if_neg hc] at h h'
    rw [h, h']
theorem okPQ_iff {hp : List Int} {bp : List Atm} {hq : List Int} {bq : List Atm} : okPQ hp bp hq bq = true ↔ okQ hp bp = true ∧ okQ hq bq = true ∧ hp.length = hq.length := by
  simp [okPQ, and_assoc]
theorem homProg_c {w : World} {hpv bpv hqv bqv : Value} {hp hq : List Int} {bp bq : List Atm} (shp : SlI w hpv hp) (sbp : SlA w bpv bp) (shq : SlI w hqv hq) (sbq : SlA w bqv bq) :
    Calls Try.prog 35 #[.agg #[hpv, bpv], .agg #[hqv, bqv]] w fun e w' => ∃ v o, e = .returned (.tuple #[v, .int .i64 (homE hp bp hq bq o)]) ∧ HomA hp bp hq bq o ∧ HomV w' v o ∧ Grow w w' := by
  refine f35_calls _ _ ?_
  refine ⟨_, rfl, fun w1 hw1 => ⟨_, rfl, fun w3 hw3 => ?_⟩⟩
  have g1 := alloc_grow hw1
  have g3 := alloc_grow hw3
  have g03 := g1.trans g3
  have p0 := g3.cell (boxc hw1 0 hpv rfl)
  have p1 := g3.cell (boxc hw1 1 bpv rfl)
  have q0 := boxc hw3 0 hqv rfl
  have q1 := boxc hw3 1 bqv rfl
  have err : ∀ {w'}, Grow w w' → ¬ okPQ hp bp hq bq = true → ∃ v o, Ending.returned (.tuple #[.slice none 0 0, .int .i64 2]) = .returned (.tuple #[v, .int .i64 (homE hp bp hq bq o)]) ∧ HomA hp bp hq bq o ∧ HomV w' v o ∧ Grow w w' := fun g hn => ⟨_, none, by rw [homE, if_neg hn], by rw [HomA, if_neg hn], rfl, g⟩
  refine ⟨[_, _], rfl, two p0 p1, (valid_c (shp.grow g03) (sbp.gr g03)).mono ?_⟩
  rintro e w6 ⟨rfl, g6⟩
  have g06 := g03.trans g6
  refine ⟨_, rfl, condP_i (fun h1 => err g06 (fun h => by rw [(okPQ_iff.1 h).1] at h1; cases h1)) fun h1 => ?_⟩
  have h1 : okQ hp bp = true := by simpa using h1
  refine ⟨[_, _], rfl, two (g6.cell q0) (g6.cell q1), (valid_c (shq.grow g06) (sbq.gr g06)).mono ?_⟩
  rintro e w10 ⟨rfl, g10⟩
  have g010 := g06.trans g10
  have g310 := g6.trans g10
  refine ⟨_, rfl, condP_i (fun h2 => err g010 (fun h => by rw [(okPQ_iff.1 h).2.1] at h2; cases h2)) fun h2 => ?_⟩
  have h2 : okQ hq bq = true := by simpa using h2
  refine ⟨_, g310.cell p0, (shp.grow g010).ln ⟨_, g310.cell q0, (shq.grow g010).ln (condP_i (fun h3 => err g010 (fun h => by have := (okPQ_iff.1 h).2.2; simp at h3; omega)) fun h3 => ?_)⟩⟩
  have h3 : hp.length = hq.length := by simp at h3; omega
  have ok : okPQ hp bp hq bq = true := okPQ_iff.2 ⟨h1, h2, h3⟩
  refine ⟨[_, _], rfl, two (g310.cell p0) (g310.cell p1), [_, _], rfl, two (g310.cell q0) (g310.cell q1), (hom_c (shp.grow g010) (sbp.gr g010) (shq.grow g010) (sbq.gr g010) h1 h2 h3).mono ?_⟩
  rintro e w23 ⟨v, o, rfl, hF, hV, g23⟩
  have hA : HomA hp bp hq bq o := by rw [HomA, if_pos ok]; exact hF
  refine ⟨v, rfl, _, hV.eq, condP_i (fun hn => ?_) fun hn => ?_⟩
  · have : o = none := by simpa using hn
    subst this
    exact ⟨_, none, by rw [homE, if_pos ok]; rfl, hA, rfl, g010.trans g23⟩
  · refine ⟨v, o, ?_, hA, hV, g010.trans g23⟩
    rw [homE, if_pos ok, if_pos]
    cases o with
    | none => cases hn
    | some x => rfl
theorem containedProg_c {w : World} {hpv bpv hqv bqv : Value} {hp hq : List Int} {bp bq : List Atm} (shp : SlI w hpv hp) (sbp : SlA w bpv bp) (shq : SlI w hqv hq) (sbq : SlA w bqv bq) :
    Calls Try.prog 41 #[.agg #[hpv, bpv], .agg #[hqv, bqv]] w fun e w' => ∃ b : Bool, e = .returned (.tuple #[.bool b, .int .i64 (if okPQ hp bp hq bq = true then 0 else 2)]) ∧ (b = true ↔ okPQ hp bp hq bq = true ∧ ∃ h, IsHom hq bq hp bp h) ∧ Grow w w' := by
  refine f41_calls _ _ ?_
  refine ⟨_, rfl, fun w1 hw1 => ⟨_, rfl, fun w3 hw3 => ?_⟩⟩
  have g1 := alloc_grow hw1
  have g3 := alloc_grow hw3
  have g03 := g1.trans g3
  have p0 := g3.cell (boxc hw1 0 hpv rfl)
  have p1 := g3.cell (boxc hw1 1 bpv rfl)
  have q0 := boxc hw3 0 hqv rfl
  have q1 := boxc hw3 1 bqv rfl
  have err : ∀ {w'}, Grow w w' → ¬ okPQ hp bp hq bq = true → ∃ b : Bool, Ending.returned (.tuple #[.bool false, .int .i64 2]) = .returned (.tuple #[.bool b, .int .i64 (if okPQ hp bp hq bq = true then 0 else 2)]) ∧ (b = true ↔ okPQ hp bp hq bq = true ∧ ∃ h, IsHom hq bq hp bp h) ∧ Grow w w' := fun g hn => ⟨false, by rw [if_neg hn], by simp [hn], g⟩
  refine ⟨[_, _], rfl, two p0 p1, (valid_c (shp.grow g03) (sbp.gr g03)).mono ?_⟩
  rintro e w6 ⟨rfl, g6⟩
  have g06 := g03.trans g6
  refine ⟨_, rfl, condP_i (fun h1 => err g06 (fun h => by rw [(okPQ_iff.1 h).1] at h1; cases h1)) fun h1 => ?_⟩
  have h1 : okQ hp bp = true := by simpa using h1
  refine ⟨[_, _], rfl, two (g6.cell q0) (g6.cell q1), (valid_c (shq.grow g06) (sbq.gr g06)).mono ?_⟩
  rintro e w10 ⟨rfl, g10⟩
  have g010 := g06.trans g10
  have g310 := g6.trans g10
  refine ⟨_, rfl, condP_i (fun h2 => err g010 (fun h => by rw [(okPQ_iff.1 h).2.1] at h2; cases h2)) fun h2 => ?_⟩
  have h2 : okQ hq bq = true := by simpa using h2
  refine ⟨_, g310.cell p0, (shp.grow g010).ln ⟨_, g310.cell q0, (shq.grow g010).ln (condP_i (fun h3 => err g010 (fun h => by have := (okPQ_iff.1 h).2.2; simp at h3; omega)) fun h3 => ?_)⟩⟩
  have h3 : hp.length = hq.length := by simp at h3; omega
  have ok : okPQ hp bp hq bq = true := okPQ_iff.2 ⟨h1, h2, h3⟩
  refine ⟨[_, _], rfl, two (g310.cell q0) (g310.cell q1), [_, _], rfl, two (g310.cell p0) (g310.cell p1), (hom_c (shq.grow g010) (sbq.gr g010) (shp.grow g010) (sbp.gr g010) h2 h1 h3.symm).mono ?_⟩
  rintro e w23 ⟨v, o, rfl, hF, hV, g23⟩
  refine ⟨v, rfl, _, hV.ne, o.isSome, by rw [if_pos ok], ?_, g010.trans g23⟩
  cases o with
  | none => simp only [Option.isSome_none, Bool.false_eq_true, ok, true_and, false_iff, not_exists]; exact hF
  | some x => simp only [Option.isSome_some, ok, true_and, true_iff]; exact ⟨x, hF.1⟩
/-! ## The reference -/
theorem has_c {w : World} {r : Int} {hqv bqv u : Value} {bq : List Atm} {xs : List Int} (sbq : SlA w bqv bq) (su : SlI w u xs) (hl : bq.length ≤ 1000000) : Calls Try.prog 74 #[.agg #[hqv, bqv], .agg #[.int .i64 r, u]] w (Ret w (.bool (decide (((r, xs) : Atm) ∈ bq)))) := by
  refine f74_calls _ _ ?_
  refine ⟨_, rfl, fun w1 hw1 => ⟨_, rfl, fun w3 hw3 => ?_⟩⟩
  have g1 := alloc_grow hw1
  have g3 := alloc_grow hw3
  have g03 := g1.trans g3
  have q1 := g3.cell (boxc hw1 1 bqv rfl)
  have a0 := boxc hw3 0 (.int .i64 r) rfl
  have a1 := boxc hw3 1 u rfl
  refine ⟨_, q1, SlX.ln (sbq.gr g03) ?_⟩
  refine ⟨fun t w' => ∃ k : Nat, t = k ∧ k ≤ bq.length ∧ ((r, xs) : Atm) ∉ bq.take k ∧ Grow w3 w', fun t _ => bq.length - t.toNat, ⟨0, rfl, by omega, by simp, Grow.refl _⟩, ?_⟩
  rintro - t w13 ⟨k, rfl, hk, hno, g13⟩
  have g013 := g03.trans g13
  refine condD (fun hlt => ?_) (fun hge => ?_)
  · have hkl : k < bq.length := by omega
    have step : ∀ {w'}, ¬ ((r, xs) : Atm) = bq[k] → Grow w13 w' → inR ((k : Int) + 1) ∧ ((∃ k' : Nat, (k : Int) + 1 = k' ∧ k' ≤ bq.length ∧ ((r, xs) : Atm) ∉ bq.take k' ∧ Grow w3 w') ∧ bq.length - Int.toNat ((k : Int) + 1) < bq.length - Int.toNat (k : Int)) := fun hne g => ⟨by unfold inR; omega, ⟨k + 1, by omega, by omega, (by
      rw [List.take_succ_eq_append_getElem hkl]
      intro hm
      rcases List.mem_append.1 hm with hm | hm
      · exact hno hm
      · exact hne (by simpa using hm)), g13.trans g⟩, by omega⟩
    refine SlX.loc (sbq.gr g013) rfl hkl rfl fun w19 v g19 s19 hv c0 c1 => ?_
    have g319 := g13.trans g19
    refine ⟨_, g319.cell a0, _, c0, condD (fun he => ?_) fun hne => step (fun e => hne (by rw [← e])) g19⟩
    refine ⟨_, g319.cell a1, _, c1, (refEqual_c (su.grow (g03.trans g319)) hv).mono ?_⟩
    rintro e w25 ⟨rfl, rfl⟩
    refine ⟨_, rfl, condD (fun hx => ⟨?_, g03.trans g319⟩) fun hx => step (fun e => hx (by rw [← e])) g19⟩
    congr 2
    symm
    refine decide_eq_true ?_
    have : ((r, xs) : Atm) = bq[k] := Prod.ext he hx
    rw [this]
    exact List.getElem_mem hkl
  · have hkl : k = bq.length := by omega
    subst hkl
    rw [List.take_length] at hno
    refine ⟨?_, g013⟩
    congr 2
    symm
    exact decide_eq_false hno
theorem shift_zero {xs : List Int} {n : Nat} (hn : n ≤ 8) (hz : iShr .i64 ((varsL xs : Nat) : Int) (n : Int) = 0) : ∀ x ∈ xs, x < (n : Int) := fun x hx => by
  rw [iShr_nat (by omega)] at hz
  have hz : varsL xs >>> n = 0 := by omega
  rcases Int.lt_or_le x n with h | h
  · exact h
  · exfalso
    have hb : (varsL xs).testBit x.toNat = true := varsL_bit.2 (by rw [Int.toNat_of_nonneg (by omega)]; exact hx)
    have := Nat.testBit_shiftRight (i := n) (j := x.toNat - n) (varsL xs)
    rw [hz, show n + (x.toNat - n) = x.toNat by omega, hb] at this
    simp at this
theorem getD_takeE {g h : List Int} (e : g.take h.length = h) {x : Nat} (hx : x < h.length) : g.getD x 0 = h.getD x 0 := by
  have : h.getD x 0 = (g.take h.length).getD x 0 := by rw [e]
  rw [this]; simp [List.getD, List.getElem?_take, hx]
theorem imgH_take {g h : List Int} (e : g.take h.length = h) {a : Atm} (ha : ∀ x ∈ a.2, x < (h.length : Int)) : imgH g a = imgH h a := by
  unfold imgH
  congr 1
  refine List.map_congr_left fun y hy => ?_
  unfold imgT
  split
  · have := ha y hy
    exact getD_takeE e (by omega)
  · rfl
theorem possible_c {w : World} {hpv bpv hqv bqv hv : Value} {hp hq h : List Int} {bp bq : List Atm} (shp : SlI w hpv hp) (sbp : SlA w bpv bp) (shq : SlI w hqv hq) (sbq : SlA w bqv bq) (sh : SlI w hv h) (okp : okQ hp bp = true) (okq : okQ hq bq = true) (hlen : hp.length = hq.length) (h8 : h.length ≤ 8) :
    Calls Try.prog 98 #[.agg #[hpv, bpv], .agg #[hqv, bqv], hv] w fun e w' => ∃ b : Bool, e = .returned (.bool b) ∧ (b = false → ∀ g, IsHom hp bp hq bq g → g.take h.length ≠ h) ∧ Grow w w' := by
  refine f98_calls _ _ _ ?_
  refine ⟨_, rfl, fun w1 hw1 => ⟨_, rfl, fun w3 hw3 => ?_⟩⟩
  have g1 := alloc_grow hw1
  have g3 := alloc_grow hw3
  have g03 := g1.trans g3
  have p0 := g3.cell (boxc hw1 0 hpv rfl)
  have p1 := g3.cell (boxc hw1 1 bpv rfl)
  have q0 := boxc hw3 0 hqv rfl
  have q1 := boxc hw3 1 bqv rfl
  have obp : ∀ a ∈ bp, okA a = true := fun a ha => by
    simp only [okQ, Bool.and_eq_true, List.all_eq_true] at okp
    exact okp.1.2 a ha
  have hbl := okQ_len okp
  have hql := okQ_len okq
  have hhp := okQ_head okp
  refine ⟨_, p1, SlX.ln (sbp.gr g03) ?_⟩
  refine ⟨fun t w' => ∃ k : Nat, t = k ∧ k ≤ bp.length ∧ Grow w3 w', fun t _ => bp.length - t.toNat, ⟨0, rfl, by omega, Grow.refl _⟩, ?_⟩
  rintro - t w13 ⟨k, rfl, hk, g13⟩
  have g013 := g03.trans g13
  refine condD (fun hlt => ?_) (fun hge => ?_)
  · have hkl : k < bp.length := by omega
    have hTa := okB_term okp _ (List.getElem_mem hkl)
    have hal := (okA_iff.1 (obp _ (List.getElem_mem hkl))).2.2.2.1
    have step : ∀ {w'}, Grow w13 w' → inR ((k : Int) + 1) ∧ ((∃ k' : Nat, (k : Int) + 1 = k' ∧ k' ≤ bp.length ∧ Grow w3 w') ∧ bp.length - Int.toNat ((k : Int) + 1) < bp.length - Int.toNat (k : Int)) := fun g => ⟨by unfold inR; omega, ⟨k + 1, by omega, by omega, g13.trans g⟩, by omega⟩
    refine SlX.loc (sbp.gr g013) rfl hkl rfl fun w19 u g19 s19 hu c0 c1 m => ?_
    have gd : Grow w19 (dr w19 m) := (Grow.refl w19).dr m
    have g13d := g19.trans gd
    refine (sh.grow (g013.trans g13d)).ln ⟨[_, _], rfl, two (gd.cell c0) (gd.cell c1), (refVars_c (hu.grow gd) hTa).mono ?_⟩
    rintro e w26 ⟨rfl, g26⟩
    have g1326 := g13d.trans g26
    have g026 := g013.trans g1326
    refine ⟨_, rfl, by omega, condD (fun hz => ?_) fun hz => ⟨step g1326, step g1326, step g1326⟩⟩
    have hlt8 := shift_zero h8 hz
    have r0 : Grow w26 w26 := Grow.refl w26
    have uu : SlI w26 u bp[k].2 := hu.grow (gd.trans g26)
    have qq : ∀ {E}, Grow w26 E → ∀ (t : Nat) (v : Value), [hqv, bqv][t]? = some v → E.cell? (Addr.add ⟨w1.heap.size, 0, none⟩ t) = some v := fun g => two ((((g13.trans g1326)).trans g).cell q0) (((g13.trans g1326).trans g).cell q1)
    have aa : ∀ {E}, Grow w26 E → ∀ (t : Nat) (v : Value), [Value.int .i64 bp[k].1, u][t]? = some v → E.cell? (Addr.add ⟨w13.heap.size, 0, none⟩ t) = some v := fun g => two (((gd.trans g26).trans g).cell c0) (((gd.trans g26).trans g).cell c1)
    have callI : ∀ {Q : Ending → World → Prop}, (∀ v E, SlI E v (bp[k].2.map (imgT h)) → Grow w26 E → Q (.returned (.agg #[.int .i64 bp[k].1, v])) E) → Calls Try.prog 75 #[.agg #[.int .i64 bp[k].1, u], hv] w26 Q := fun hq => (refImage_c uu (sh.grow g026) hlt8 (by omega)).mono (by
      rintro e E ⟨v, rfl, hv, g⟩
      exact hq v E hv g)
    have fin : ∀ {E : World} {v : Value}, SlI E v (bp[k].2.map (imgT h)) → Grow w26 E → Calls Try.prog 74 #[.agg #[hqv, bqv], .agg #[.int .i64 bp[k].1, v]] E fun e w' => ∃ t : Bool, e = .returned (.bool t) ∧ condP (!t) (∃ b : Bool, Ending.returned (.bool false) = .returned (.bool b) ∧ (b = false → ∀ g, IsHom hp bp hq bq g → g.take h.length ≠ h) ∧ Grow w w') (inR ((k : Int) + 1) ∧ ((∃ k' : Nat, (k : Int) + 1 = k' ∧ k' ≤ bp.length ∧ Grow w3 w') ∧ bp.length - Int.toNat ((k : Int) + 1) < bp.length - Int.toNat (k : Int))) := fun {E v} hv g => (has_c (sbq.gr (g026.trans g)) hv (by omega)).mono (by
      rintro e w' ⟨rfl, g'⟩
      refine ⟨_, rfl, condP_i (fun hn => ⟨false, rfl, fun _ f hF ef => ?_, (g026.trans g).trans g'⟩) fun _ => step ((g1326.trans g).trans g')⟩
      rw [Bool.not_eq_true'] at hn
      refine of_decide_eq_false hn ?_
      have h9 := hF.atoms _ (List.getElem_mem hkl)
      rw [imgH_take ef hlt8] at h9
      exact h9)
    repeat' first
      | refine ⟨[_, _], rfl, qq r0, ?_⟩
      | refine ⟨[_, _], rfl, aa r0, ?_⟩
      | (refine callI ?_; intro v E hv gE; refine ⟨_, rfl, ?_⟩)
      | refine ⟨[_, _], rfl, qq ‹Grow w26 _›, ?_⟩
      | exact fin ‹SlI _ _ (bp[k].2.map (imgT h))› ‹Grow w26 _›
      | refine And.intro ?_ ?_
  · refine ⟨_, g13.cell p0, (shp.grow g013).ln ?_⟩
    refine ⟨fun t w' => ∃ k : Nat, t = k ∧ k ≤ hp.length ∧ Grow w13 w', fun t _ => hp.length - t.toNat, ⟨0, rfl, by omega, Grow.refl _⟩, ?_⟩
    rintro - t w60 ⟨i, rfl, hi, g60⟩
    have g060 := g013.trans g60
    have g360 := g13.trans g60
    refine condD (fun hlt2 => ?_) (fun hge2 => ?_)
    · have hil : i < hp.length := by omega
      have hx := hhp _ (List.getElem_mem hil)
      have hiq : i < hq.length := by omega
      have step : ∀ {w'}, Grow w13 w' → inR ((i : Int) + 1) ∧ ((∃ k' : Nat, (i : Int) + 1 = k' ∧ k' ≤ hp.length ∧ Grow w13 w') ∧ hp.length - Int.toNat ((i : Int) + 1) < hp.length - Int.toNat (i : Int)) := fun g => ⟨by unfold inR; omega, ⟨i + 1, by omega, by omega, g⟩, by omega⟩
      refine (shp.grow g060).rd rfl hil ((sh.grow g060).ln (condD (fun hlt3 => ?_) fun hge3 m => step (g60.dr m)))
      have hxl : (hp[i]).toNat < h.length := by omega
      refine (sh.grow g060).rd (i := (hp[i]).toNat) (by omega) hxl ⟨hqv, g360.cell q0, (shq.grow g060).rd rfl hiq fun m => condP_i (fun h5 => ⟨false, rfl, fun _ f hF ef => ?_, g060.dr m⟩) fun h5 => step (g60.dr m)⟩
      have h5 : ¬ h[(hp[i]).toNat] = hq[i] := by simpa using h5
      have h9 := hF.head i hil
      rw [getD_takeE ef hxl] at h9
      simp only [List.getD, List.getElem?_eq_getElem hxl, List.getElem?_eq_getElem hiq, Option.getD_some] at h9
      exact h5 h9
    · exact ⟨true, rfl, fun h => (by cases h), g060⟩
theorem refIsHom_c {w : World} {hpv bpv hqv bqv hv : Value} {hp hq h : List Int} {bp bq : List Atm} (shp : SlI w hpv hp) (sbp : SlA w bpv bp) (shq : SlI w hqv hq) (sbq : SlA w bqv bq) (sh : SlI w hv h) (okp : okQ hp bp = true) (okq : okQ hq bq = true) (hlen : hp.length = hq.length) :
    Calls Try.prog 38 #[.agg #[hpv, bpv], .agg #[hqv, bqv], hv] w fun e w' => ∃ b : Bool, e = .returned (.bool b) ∧ (b = true ↔ IsHom hp bp hq bq h) ∧ Grow w w' := by
  refine f38_calls _ _ _ ?_
  refine ⟨_, rfl, fun w1 hw1 => ⟨_, rfl, fun w3 hw3 => ?_⟩⟩
  have g1 := alloc_grow hw1
  have g3 := alloc_grow hw3
  have g03 := g1.trans g3
  have p0 := g3.cell (boxc hw1 0 hpv rfl)
  have p1 := g3.cell (boxc hw1 1 bpv rfl)
  have q0 := boxc hw3 0 hqv rfl
  have q1 := boxc hw3 1 bqv rfl
  have obp : ∀ a ∈ bp, okA a = true := fun a ha => by
    simp only [okQ, Bool.and_eq_true, List.all_eq_true] at okp
    exact okp.1.2 a ha
  have hbl := okQ_len okp
  have hql := okQ_len okq
  have hhp := okQ_head okp
  have hvl := varsB_lt obp
  have no : ∀ {w'}, Grow w w' → ¬ IsHom hp bp hq bq h → ∃ b : Bool, Ending.returned (.bool false) = .returned (.bool b) ∧ (b = true ↔ IsHom hp bp hq bq h) ∧ Grow w w' := fun g hn => ⟨false, rfl, by simp [hn], g⟩
  refine sh.ln (condP_i (fun h4 => no g03 fun hH => by have := hH.len; simp at h4; omega) fun h4 => (sh.grow g03).ln ?_)
  have h4 : h.length = 8 := by simp at h4; omega
  refine ⟨fun t w' => ∃ i : Nat, t = i ∧ i ≤ 8 ∧ (∀ j, j < i → if (varsB bp).testBit j = true then -9 ≤ h.getD j 0 ∧ h.getD j 0 ≤ 7 else h.getD j 0 = 99) ∧ Grow w3 w', fun t _ => 8 - t.toNat, ⟨0, rfl, by omega, fun j hj => by omega, Grow.refl _⟩, ?_⟩
  rintro - t w15 ⟨i, rfl, hi, hocc, g15⟩
  have g015 := g03.trans g15
  refine condD (fun hlt => ?_) (fun hge => ?_)
  · have hil : i < h.length := by omega
    have hgi : h.getD i 0 = h[i] := by simp [List.getD, hil]
    have step : ∀ {w'}, (if (varsB bp).testBit i = true then -9 ≤ h.getD i 0 ∧ h.getD i 0 ≤ 7 else h.getD i 0 = 99) → Grow w15 w' → inR ((i : Int) + 1) ∧ ((∃ i' : Nat, (i : Int) + 1 = i' ∧ i' ≤ 8 ∧ (∀ j, j < i' → if (varsB bp).testBit j = true then -9 ≤ h.getD j 0 ∧ h.getD j 0 ≤ 7 else h.getD j 0 = 99) ∧ Grow w3 w') ∧ 8 - Int.toNat ((i : Int) + 1) < 8 - Int.toNat (i : Int)) := fun hs g => ⟨by unfold inR; omega, ⟨i + 1, by omega, by omega, (fun j hj => by
      rcases Nat.lt_or_ge j i with h9 | h9
      · exact hocc j h9
      · have : j = i := by omega
        subst this; exact hs), g15.trans g⟩, by omega⟩
    refine (sh.grow g015).rd rfl hil ⟨[_, _], rfl, two (g15.cell p0) (g15.cell p1), (refAll_c (sbp.gr g015) obp).mono ?_⟩
    rintro e w21 ⟨rfl, g21⟩
    have g021 := g015.trans g21
    refine ⟨_, rfl, by omega, condD (fun h6 => ?_) fun h6 => condP_i (fun h7 => condP_i (fun h8 => no g021 fun hH => ?_) fun h8 => ?_) fun h7 => ?_⟩
    · have hb := (bit_one (by omega)).1 h6
      refine refTerm_c.mono ?_
      rintro e w24 ⟨rfl, g24⟩
      refine ⟨_, rfl, condP_i (fun h7 => no (g021.trans g24) fun hH => ?_) fun h7 => condP_i (fun h8 => ?_) fun h8 => ?_⟩
      · have := hH.occ i (by omega)
        rw [if_pos hb, hgi] at this
        simp [okT] at h7
        omega
      · rw [decide_eq_true h6] at h8
        cases h8
      · refine step ?_ (g21.trans g24)
        rw [if_pos hb, hgi]
        simp [okT] at h7
        omega
    · have hb : ¬ (varsB bp).testBit i = true := fun h => h6 ((bit_one (by omega)).2 h)
      have := hH.occ i (by omega)
      rw [if_neg hb, hgi] at this
      simp at h8
      exact h8 this
    · have hb : ¬ (varsB bp).testBit i = true := fun h => h6 ((bit_one (by omega)).2 h)
      refine step ?_ g21
      rw [if_neg hb, hgi]
      simpa using h8
    · rw [decide_eq_false h6] at h7
      cases h7
  · have hil : i = 8 := by omega
    subst hil
    refine ⟨_, g15.cell p1, SlX.ln (sbp.gr g015) ?_⟩
    refine ⟨fun t w' => ∃ k : Nat, t = k ∧ k ≤ bp.length ∧ (∀ a ∈ bp.take k, imgH h a ∈ bq) ∧ Grow w15 w', fun t _ => bp.length - t.toNat, ⟨0, rfl, by omega, by simp, Grow.refl _⟩, ?_⟩
    rintro - t w35 ⟨k, rfl, hk, hat, g35⟩
    have g035 := g015.trans g35
    refine condD (fun hlt => ?_) (fun hge => ?_)
    · have hkl : k < bp.length := by omega
      have hTa := okB_term okp _ (List.getElem_mem hkl)
      have hal := (okA_iff.1 (obp _ (List.getElem_mem hkl))).2.2.2.1
      have step : ∀ {w'}, imgH h bp[k] ∈ bq → Grow w35 w' → inR ((k : Int) + 1) ∧ ((∃ k' : Nat, (k : Int) + 1 = k' ∧ k' ≤ bp.length ∧ (∀ a ∈ bp.take k', imgH h a ∈ bq) ∧ Grow w15 w') ∧ bp.length - Int.toNat ((k : Int) + 1) < bp.length - Int.toNat (k : Int)) := fun h5 g => ⟨by unfold inR; omega, ⟨k + 1, by omega, by omega, (fun a ha => by
        rw [List.take_succ_eq_append_getElem hkl] at ha
        rcases List.mem_append.1 ha with ha | ha
        · exact hat a ha
        · obtain rfl : a = bp[k] := by simpa using ha
          exact h5), g35.trans g⟩, by omega⟩
      refine SlX.loc (sbp.gr g035) rfl hkl rfl fun w41 u g41 s41 hu c0 c1 m => ?_
      have gd : Grow w41 (dr w41 m) := (Grow.refl w41).dr m
      obtain ⟨wd, ewd⟩ : ∃ wd, wd = dr w41 m := ⟨_, rfl⟩
      rw [← ewd] at gd ⊢
      have g35d := g41.trans gd
      have g0d := g035.trans g35d
      have r0 : Grow wd wd := Grow.refl wd
      have uu : SlI wd u bp[k].2 := hu.grow gd
      have qq : ∀ {E}, Grow wd E → ∀ (t : Nat) (v : Value), [hqv, bqv][t]? = some v → E.cell? (Addr.add ⟨w1.heap.size, 0, none⟩ t) = some v := fun g => two ((((g15.trans g35).trans g35d).trans g).cell q0) ((((g15.trans g35).trans g35d).trans g).cell q1)
      have aa : ∀ {E}, Grow wd E → ∀ (t : Nat) (v : Value), [Value.int .i64 bp[k].1, u][t]? = some v → E.cell? (Addr.add ⟨w35.heap.size, 0, none⟩ t) = some v := fun g => two ((gd.trans g).cell c0) ((gd.trans g).cell c1)
      have callI : ∀ {Q : Ending → World → Prop}, (∀ v E, SlI E v (bp[k].2.map (imgT h)) → Grow wd E → Q (.returned (.agg #[.int .i64 bp[k].1, v])) E) → Calls Try.prog 75 #[.agg #[.int .i64 bp[k].1, u], hv] wd Q := fun hq => (refImage_c uu (sh.grow g0d) (fun x hx => by have := hTa x hx; omega) (by omega)).mono (by
        rintro e E ⟨v, rfl, hv, g⟩
        exact hq v E hv g)
      have fin : ∀ {E : World} {v : Value}, SlI E v (bp[k].2.map (imgT h)) → Grow wd E → Calls Try.prog 74 #[.agg #[hqv, bqv], .agg #[.int .i64 bp[k].1, v]] E fun e w' => ∃ t : Bool, e = .returned (.bool t) ∧ condP (!t) (∃ b : Bool, Ending.returned (.bool false) = .returned (.bool b) ∧ (b = true ↔ IsHom hp bp hq bq h) ∧ Grow w w') (inR ((k : Int) + 1) ∧ ((∃ k' : Nat, (k : Int) + 1 = k' ∧ k' ≤ bp.length ∧ (∀ a ∈ bp.take k', imgH h a ∈ bq) ∧ Grow w15 w') ∧ bp.length - Int.toNat ((k : Int) + 1) < bp.length - Int.toNat (k : Int))) := fun {E v} hv g => (has_c (sbq.gr (g0d.trans g)) hv (by omega)).mono (by
        rintro e w' ⟨rfl, g'⟩
        refine ⟨_, rfl, condP_i (fun hn => no ((g0d.trans g).trans g') fun hF => ?_) fun hn => step ?_ ((g35d.trans g).trans g')⟩
        · rw [Bool.not_eq_true'] at hn
          exact of_decide_eq_false hn (hF.atoms _ (List.getElem_mem hkl))
        · rw [Bool.not_eq_false'] at hn
          exact of_decide_eq_true hn)
      repeat' first
        | refine ⟨[_, _], rfl, qq r0, ?_⟩
        | refine ⟨[_, _], rfl, aa r0, ?_⟩
        | (refine callI ?_; intro v E hv gE; refine ⟨_, rfl, ?_⟩)
        | refine ⟨[_, _], rfl, qq ‹Grow wd _›, ?_⟩
        | exact fin ‹SlI _ _ (bp[k].2.map (imgT h))› ‹Grow wd _›
        | refine And.intro ?_ ?_
    · have hkl : k = bp.length := by omega
      subst hkl
      rw [List.take_length] at hat
      refine ⟨_, (g15.trans g35).cell p0, (shp.grow g035).ln ?_⟩
      refine ⟨fun t w' => ∃ k : Nat, t = k ∧ k ≤ hp.length ∧ (∀ j (hj : j < hp.length), j < k → h.getD (hp[j]).toNat 0 = hq.getD j 0) ∧ Grow w35 w', fun t _ => hp.length - t.toNat, ⟨0, rfl, by omega, fun j _ hj => by omega, Grow.refl _⟩, ?_⟩
      rintro - t w75 ⟨k, rfl, hk2, hhead, g75⟩
      have g075 := g035.trans g75
      have g375 := (g15.trans g35).trans g75
      refine condD (fun hlt2 => ?_) (fun hge2 => ?_)
      · have hkl : k < hp.length := by omega
        have hx := hhp _ (List.getElem_mem hkl)
        have hxl : (hp[k]).toNat < h.length := by omega
        have hkq : k < hq.length := by omega
        refine (shp.grow g075).rd rfl hkl ((sh.grow g075).rd (i := (hp[k]).toNat) (by omega) hxl ⟨hqv, g375.cell q0, (shq.grow g075).rd rfl hkq fun m => condP_i (fun h5 => no (g075.dr m) fun hH => ?_) fun h5 => ?_⟩)
        · have h5 : ¬ h[(hp[k]).toNat] = hq[k] := by simpa using h5
          have := hH.head k hkl
          simp only [List.getD, List.getElem?_eq_getElem hxl, List.getElem?_eq_getElem hkq, Option.getD_some] at this
          exact h5 this
        · have h5 : h[(hp[k]).toNat] = hq[k] := by simpa using h5
          refine ⟨by unfold inR; omega, ⟨k + 1, by omega, by omega, fun j hj hjk => ?_, g75.dr m⟩, by dsimp only; omega⟩
          by_cases e : j = k
          · subst e
            simp only [List.getD, List.getElem?_eq_getElem hxl, List.getElem?_eq_getElem hkq, Option.getD_some]
            exact h5
          · exact hhead j hj (by omega)
      · have hkl : k = hp.length := by omega
        subst hkl
        exact ⟨true, rfl, ⟨fun _ => ⟨h4, hocc, hat, fun j hj => hhead j hj hj⟩, fun _ => rfl⟩, g075⟩
end Go.Proofs.Ytjkphmbjdleppaa
