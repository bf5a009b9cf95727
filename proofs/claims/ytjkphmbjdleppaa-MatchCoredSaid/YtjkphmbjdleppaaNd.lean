/- Two queries made by Of, in every order; a homomorphism turns results into results. No condition. -/
import Derived.Test.YtjkphmbjdleppaaLhoms
namespace Go.Proofs.Ytjkphmbjdleppaa
open Go Go.RowKit VC
set_option linter.unusedSimpArgs false
set_option linter.unusedVariables false

/-- Of p and Of q, in every order that the language leaves open. -/
theorem ofPQ {w : World} {hpv bpv hqv bqv : Value} {hp hq : List Int} {bp bq : List Atm} {ap aq : Addr} {F : Value → Value → World → Prop} (shp : SlI w hpv hp) (sbp : SlA w bpv bp) (shq : SlI w hqv hq) (sbq : SlA w bqv bq)
    (pp : ∀ {E}, Grow w E → ∀ (t : Nat) (v : Value), [hpv, bpv][t]? = some v → E.cell? (Addr.add ap t) = some v) (qq : ∀ {E}, Grow w E → ∀ (t : Nat) (v : Value), [hqv, bqv][t]? = some v → E.cell? (Addr.add aq t) = some v)
    (K : ∀ hv bv hv' bv' E, SlI E hv (hp.take 9) → SlA E bv (trB bp) → SlI E hv' (hq.take 9) → SlA E bv' (trB bq) → Grow w E → F (.agg #[hv, bv]) (.agg #[hv', bv']) E) (m : DM w) :
    (∃ cs1 : List Value, cs1.length = 2 ∧ (∀ j v, cs1[j]? = some v → (dr w m.1).cell? (Addr.add ap j) = some v) ∧
      (Calls Try.prog 14 #[.agg cs1.toArray] (dr w m.1) fun e w1 => ∃ t1 : Value, e = .returned t1 ∧ ∃ cs2 : List Value, cs2.length = 2 ∧ (∀ j v, cs2[j]? = some v → w1.cell? (Addr.add aq j) = some v) ∧ Calls Try.prog 14 #[.agg cs2.toArray] w1 fun e w2 => ∃ t2 : Value, e = .returned t2 ∧ F t1 t2 w2) ∧
      (∃ cs2 : List Value, cs2.length = 2 ∧ (∀ j v, cs2[j]? = some v → (dr w m.1).cell? (Addr.add aq j) = some v) ∧ Calls Try.prog 14 #[.agg cs1.toArray] (dr w m.1) fun e w1 => ∃ t1 : Value, e = .returned t1 ∧ Calls Try.prog 14 #[.agg cs2.toArray] w1 fun e w2 => ∃ t2 : Value, e = .returned t2 ∧ F t1 t2 w2)) ∧
    (∃ cs2 : List Value, cs2.length = 2 ∧ (∀ j v, cs2[j]? = some v → (dr w m.1).cell? (Addr.add aq j) = some v) ∧ ∃ cs1 : List Value, cs1.length = 2 ∧ (∀ j v, cs1[j]? = some v → (dr w m.1).cell? (Addr.add ap j) = some v) ∧ Calls Try.prog 14 #[.agg cs1.toArray] (dr w m.1) fun e w1 => ∃ t1 : Value, e = .returned t1 ∧ Calls Try.prog 14 #[.agg cs2.toArray] w1 fun e w2 => ∃ t2 : Value, e = .returned t2 ∧ F t1 t2 w2) := by
  have gm : Grow w (dr w m) := (Grow.refl w).dr m
  have ofP : ∀ {E : World} {Q : Ending → World → Prop}, Grow w E → (∀ hv bv E', SlI E' hv (hp.take 9) → SlA E' bv (trB bp) → Grow w E' → Grow E E' → Q (.returned (.agg #[hv, bv])) E') → Calls Try.prog 14 #[.agg #[hpv, bpv]] E Q := fun g hQ => (ofS_c (shp.grow g) (sbp.gr g)).mono (by
    rintro e E' ⟨a, b, rfl, s, t, g'⟩
    exact hQ a b E' s t (g.trans g') g')
  have ofQ : ∀ {E : World} {Q : Ending → World → Prop}, Grow w E → (∀ hv bv E', SlI E' hv (hq.take 9) → SlA E' bv (trB bq) → Grow w E' → Grow E E' → Q (.returned (.agg #[hv, bv])) E') → Calls Try.prog 14 #[.agg #[hqv, bqv]] E Q := fun g hQ => (ofS_c (shq.grow g) (sbq.gr g)).mono (by
    rintro e E' ⟨a, b, rfl, s, t, g'⟩
    exact hQ a b E' s t (g.trans g') g')
  refine ⟨⟨[_, _], rfl, pp gm, ?_, [_, _], rfl, qq gm, ?_⟩, [_, _], rfl, qq gm, [_, _], rfl, pp gm, ?_⟩
  · refine ofP gm ?_
    intro hA bA EA sA tA gA gA'
    refine ⟨_, rfl, [_, _], rfl, qq gA, ofQ gA ?_⟩
    intro hB bB EB sB tB gB gB'
    exact ⟨_, rfl, K _ _ _ _ _ (sA.grow gB') (tA.gr gB') sB tB gB⟩
  · refine ofP gm ?_
    intro hA bA EA sA tA gA gA'
    refine ⟨_, rfl, ofQ gA ?_⟩
    intro hB bB EB sB tB gB gB'
    exact ⟨_, rfl, K _ _ _ _ _ (sA.grow gB') (tA.gr gB') sB tB gB⟩
  · refine ofP gm ?_
    intro hA bA EA sA tA gA gA'
    refine ⟨_, rfl, ofQ gA ?_⟩
    intro hB bB EB sB tB gB gB'
    exact ⟨_, rfl, K _ _ _ _ _ (sA.grow gB') (tA.gr gB') sB tB gB⟩
/-- The program's CheckHom of two made queries. -/
theorem chk_tr {w : World} {hv bv hv' bv' lv : Value} {hp hq l : List Int} {bp bq : List Atm} (s : SlI w hv (hp.take 9)) (t : SlA w bv (trB bp)) (s' : SlI w hv' (hq.take 9)) (t' : SlA w bv' (trB bq)) (sl : SlI w lv l) :
    Calls Try.prog 37 #[.agg #[hv, bv], .agg #[hv', bv'], lv] w fun e w' => ∃ b : Bool, e = .returned (.tuple #[.bool b, .int .i64 (if okPQ hp bp hq bq = true then 0 else 2)]) ∧ (b = true ↔ okPQ hp bp hq bq = true ∧ IsHom hp bp hq bq l) ∧ Grow w w' := (checkHom_c s t s' t' sl).mono (by
    rintro e E' ⟨b, rfl, hb, g'⟩
    rw [okPQ_tr] at hb ⊢
    refine ⟨b, rfl, hb.trans ?_, g'⟩
    constructor
    · rintro ⟨ok, h⟩
      obtain ⟨e1, e2, e3, e4⟩ := tr4 ok
      rw [e1, e2, e3, e4] at h
      exact ⟨ok, h⟩
    · rintro ⟨ok, h⟩
      obtain ⟨e1, e2, e3, e4⟩ := tr4 ok
      rw [e1, e2, e3, e4]
      exact ⟨ok, h⟩)
theorem hom_tr {w : World} {hv bv hv' bv' : Value} {hp hq : List Int} {bp bq : List Atm} (s : SlI w hv (hp.take 9)) (t : SlA w bv (trB bp)) (s' : SlI w hv' (hq.take 9)) (t' : SlA w bv' (trB bq)) :
    Calls Try.prog 35 #[.agg #[hv, bv], .agg #[hv', bv']] w fun e w' => ∃ v o, e = .returned (.tuple #[v, .int .i64 (homE hp bp hq bq o)]) ∧ HomA hp bp hq bq o ∧ HomV w' v o ∧ Grow w w' := (homProg_c s t s' t').mono (by
    rintro e E' ⟨v, o, rfl, hF, hV, g'⟩
    rw [homE_tr]
    exact ⟨v, o, rfl, homA_tr.1 hF, hV, g'⟩)
/-! ## Matches along a homomorphism -/
def mapV (h : List Int) (m : Vals) : Vals := (List.range 8).map fun i => if h.getD i 0 = 99 then 0 else ofV m (h.getD i 0)
theorem mapV_get {h : List Int} {m : Vals} {i : Nat} (hi : i < 8) : (mapV h m).getD i 0 = if h.getD i 0 = 99 then 0 else ofV m (h.getD i 0) := by
  unfold mapV
  rw [List.getD, List.getElem?_map, List.getElem?_range hi]
  rfl
theorem okQ_headIn {h : List Int} {b : List Atm} (ok : okQ h b = true) : ∀ x ∈ h, (0 ≤ x ∧ x ≤ 7) ∧ (varsB b).testBit x.toNat = true := fun x hx => by
  refine ⟨okQ_head ok x hx, ?_⟩
  simp only [okQ, Bool.and_eq_true, List.all_eq_true] at ok
  have := ok.2 _ hx
  simp only [okH, Bool.and_eq_true, decide_eq_true_eq] at this
  exact this.2
theorem hom_rows {hp hq h : List Int} {fs bp bq : List Atm} (hf : PosF fs) (okp : okQ hp bp = true) (okq : okQ hq bq = true) (hlen : hp.length = hq.length) (hH : IsHom hp bp hq bq h) {y : List Int} (hy : y ∈ rowsOf hq (allM (srtF fs) bq)) : y ∈ rowsOf hp (allM (srtF fs) bp) := by
  obtain ⟨m, hm, rfl⟩ := (mem_rows hf (okB_term okq)).1 hy
  have occ : ∀ i, i < 8 → (varsB bp).testBit i = true → -9 ≤ h.getD i 0 ∧ h.getD i 0 ≤ 7 := fun i hi hb => by
    have := hH.occ i hi
    rwa [if_pos hb] at this
  have bit : ∀ {a : Atm} {x : Int}, a ∈ bp → x ∈ a.2 → 0 ≤ x → (varsB bp).testBit x.toNat = true := fun {a x} ha hx h0 => varsB_bit.2 (List.mem_flatMap.2 ⟨a, ha, by rwa [Int.toNat_of_nonneg h0]⟩)
  have val : ∀ x : Int, 0 ≤ x → x ≤ 7 → (varsB bp).testBit x.toNat = true → ofV (mapV h m) x = ofV m (h.getD x.toNat 0) := fun x h0 h7 hb => by
    have := occ x.toNat (by omega) hb
    rw [ofV, if_neg (by omega), mapV_get (by omega), if_neg (by omega)]
  refine (mem_rows hf (okB_term okp)).2 ⟨mapV h m, ⟨by simp [mapV], fun i hi => ?_, fun a ha => ?_⟩, ?_⟩
  · rw [mapV_get hi, ← varsB_bit]
    by_cases hb : (varsB bp).testBit i = true
    · have h1 := occ i hi hb
      rw [if_neg (by omega)]
      refine ⟨fun _ => hb, fun _ => ?_⟩
      rw [ofV]
      split
      · omega
      · obtain ⟨a, ha, hia⟩ := List.mem_flatMap.1 (varsB_bit.1 hb)
        have h2 := hH.atoms a ha
        have h3 : h.getD i 0 ∈ (imgH h a).2 := List.mem_map.2 ⟨(i : Int), hia, by rw [imgT, if_pos (by omega), Int.toNat_natCast]⟩
        exact (hm.dom _ (by omega)).2 (List.mem_flatMap.2 ⟨_, h2, by rwa [Int.toNat_of_nonneg (by omega)]⟩)
    · have h1 := hH.occ i hi
      rw [if_neg hb] at h1
      rw [if_pos h1]
      exact ⟨fun h => absurd rfl h, fun h => absurd h hb⟩
  · have h2 := hm.hit _ (hH.atoms a ha)
    have : imgA (mapV h m) a = imgA m (imgH h a) := by
      unfold imgA imgH
      simp only [List.map_map]
      congr 1
      refine List.map_congr_left fun x hx => ?_
      have hT := okB_term okp a ha x hx
      simp only [Function.comp]
      rw [imgT]
      split
      · rename_i h0
        exact val x h0 hT.2 (bit ha hx h0)
      · rename_i h0
        rw [ofV, ofV, if_pos (by omega), if_pos (by omega)]
    rw [this]
    exact h2
  · refine List.ext_getElem (by simp [hlen]) fun k hk1 hk2 => ?_
    simp only [List.length_map] at hk1 hk2
    simp only [List.getElem_map]
    have h1 := okQ_headIn okp _ (List.getElem_mem hk2)
    rw [val _ h1.1.1 h1.1.2 h1.2, hH.head k hk2]
    simp [List.getD, hk1]
end Go.Proofs.Ytjkphmbjdleppaa
