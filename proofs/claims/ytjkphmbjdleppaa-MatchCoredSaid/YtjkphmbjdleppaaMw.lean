/- Homomorphisms: what they are; the image of an atom; CheckHom. No condition. -/
import Derived.Test.YtjkphmbjdleppaaMr
import Derived.Test.YtjkphmbjdleppaaMx
namespace Go.Proofs.Ytjkphmbjdleppaa
open Go Go.RowKit VC
set_option linter.unusedSimpArgs false
set_option linter.unusedVariables false

def imgT (h : List Int) (x : Int) : Int := if 0 ≤ x then h.getD x.toNat 0 else x
def imgH (h : List Int) (a : Atm) : Atm := (a.1, a.2.map (imgT h))
/-- A homomorphism. -/
structure IsHom (hp : List Int) (bp : List Atm) (hq : List Int) (bq : List Atm) (h : List Int) : Prop where
  len : h.length = 8
  occ : ∀ i, i < 8 → if (varsB bp).testBit i = true then -9 ≤ h.getD i 0 ∧ h.getD i 0 ≤ 7 else h.getD i 0 = 99
  atoms : ∀ a ∈ bp, imgH h a ∈ bq
  head : ∀ k (hk : k < hp.length), h.getD (hp[k]).toNat 0 = hq.getD k 0
def okPQ (hp : List Int) (bp : List Atm) (hq : List Int) (bq : List Atm) : Bool := okQ hp bp && okQ hq bq && decide (hp.length = hq.length)
theorem bit_one {s i : Nat} (h : i < 63) : (iAnd .i64 (iShr .i64 (s : Int) (i : Int)) 1 = 1) ↔ s.testBit i = true := by
  rw [iBit _ (by omega), ibit_nat]
  cases s.testBit i <;> simp
theorem image_c {w : World} {r : Int} {u hv : Value} {xs h : List Int} (hx : SlI w u xs) (hh : SlI w hv h) (hb : ∀ x ∈ xs, x < (h.length : Int)) (hlen : xs.length ≤ 1000) : Calls Try.prog 72 #[.agg #[.int .i64 r, u], hv] w fun e w' => ∃ v, e = .returned (.agg #[.int .i64 r, v]) ∧ SlI w' v (xs.map (imgT h)) ∧ Grow w w' := by
  refine f72_calls _ _ ?_
  refine ⟨_, rfl, fun w1 hw1 w3 hw3 => ?_⟩
  have g1 := alloc_grow hw1
  have g3 := alloc_grow hw3
  have s1 := alloc_size hw1
  have s3 := alloc_size hw3
  have hR := RecV.new hw3
  refine ⟨r, g3.cell (boxc hw1 0 _ rfl), fun w5 hw5 => RecV.init (cs := [.int .i64 r, .slice none 0 0]) hw5 rfl (by
    intro y hy
    simp at hy
    rcases hy with rfl | rfl <;> rfl) fun w6 g6 s6 hC => ?_⟩
  have g06 := (g1.trans g3).trans g6
  refine ⟨u, (g3.trans g6).cell (boxc hw1 1 _ rfl), (hx.grow g06).ln ?_⟩
  refine ⟨fun t w' => ∃ (p : Nat) (av : Value), t = p ∧ p ≤ xs.length ∧ RecV w' w3.heap.size [.int .i64 r, av] ∧ OwnI w' w6.heap.size av ((xs.take p).map (imgT h)) ∧ Fr (fun b => b = w3.heap.size ∨ w6.heap.size ≤ b) w6 w', fun t _ => xs.length - t.toNat,
    ⟨0, _, rfl, by omega, hC, by simpa [OwnI] using Own.nil w6 w6.heap.size 3 1, Fr.refl _ _⟩, ?_⟩
  rintro - t w16 ⟨p, av, rfl, hp, hrc, hown, hf⟩
  have g16 : Grow w3 w16 := g6.fr hf fun i hi e => by omega
  have g016 := (g1.trans g3).trans g16
  refine condD (fun hlt => ?_) (fun hge => ?_)
  · have hpl : p < xs.length := by omega
    have hbx := hb _ (List.getElem_mem hpl)
    have next : ∀ {z : Int} {wl : World}, z = imgT h xs[p] → wl = w16.alloc (.cells #[.int .i64 z] 3) → PApp Try.prog 22 22 av (.slice (some ⟨w16.heap.size, 0, none⟩) 1 1) wl fun t w69 => oneV t ∧ (∃ old, w69.cell? (Addr.add ⟨w3.heap.size, 0, none⟩ 1) = some old) ∧ w69.frozen? (Addr.add ⟨w3.heap.size, 0, none⟩ 1) = false ∧ ∀ w70, w70 = w69.setCell (Addr.add ⟨w3.heap.size, 0, none⟩ 1) t →
        inR ((p : Int) + 1) ∧ ((∃ (p' : Nat) (av : Value), (p : Int) + 1 = p' ∧ p' ≤ xs.length ∧ RecV w70 w3.heap.size [.int .i64 r, av] ∧ OwnI w70 w6.heap.size av ((xs.take p').map (imgT h)) ∧ Fr (fun b => b = w3.heap.size ∨ w6.heap.size ≤ b) w6 w70) ∧ xs.length - Int.toNat ((p : Int) + 1) < xs.length - Int.toNat (p : Int)) := fun {z wl} hz hwl => by
      subst hz
      have gl := alloc_grow hwl
      refine papp1 el_int hwl hown rfl (by have := hf.size; omega) (by simp; omega) (by omega) ?_
      intro v2 w69 ho2 hf2 _
      have hne : ∀ k, some k = av.ownBlock → w6.heap.size ≤ k := fun k e => (Own.lt hown e.symm).1
      have hr2 : RecV w69 w3.heap.size [.int .i64 r, av] := (hrc.grow gl).fr hf2 fun e => by have := hne _ e; omega
      refine ⟨Own.one ho2, ⟨_, hr2.cell (j := 1) rfl⟩, hr2.free 1, fun w70 hw70 => ⟨by unfold inR; omega, ⟨p + 1, v2, by omega, by omega, hr2.set hw70, ?_, ?_⟩, by omega⟩⟩
      · have h9 : OwnI w69 w6.heap.size v2 ((xs.take (p + 1)).map (imgT h)) := by
          rw [List.take_succ_eq_append_getElem hpl, List.map_append]
          unfold OwnI
          rw [List.length_append, List.map_append]
          exact ho2
        exact Own.fr h9 (RecV.set_fr hw70) fun k hk e => by have := (Own.lt h9 hk).1; omega
      · exact hf.trans ((Fr.of_grow gl).trans ((hf2.mono fun k _ e => .inr (hne k e)).trans ((RecV.set_fr hw70).mono fun k _ e => .inl e)))
    refine (hx.grow g016).rd rfl hpl (condD (fun hpos => ?_) fun hneg => ?_)
    · have hk : (xs[p]).toNat < h.length := by omega
      refine (hh.grow g016).rd (i := (xs[p]).toNat) (by omega) hk ⟨av, hrc.cell (j := 1) rfl, fun wl hwl => next ?_ hwl⟩
      rw [imgT, if_pos hpos]; simp [List.getD, hk]
    · refine ⟨av, hrc.cell (j := 1) rfl, fun wl hwl => next ?_ hwl⟩
      rw [imgT, if_neg hneg]
  · have hpl : p = xs.length := by omega
    subst hpl
    rw [List.take_length] at hown
    refine ⟨_, rfl, hrc.all, ?_⟩
    refine RecV.store (cs := [.int .i64 r, av]) (hR.fr ((Fr.of_grow g6).trans hf) (by omega)) rfl (by
      intro y hy
      simp at hy
      rcases hy with rfl | rfl
      · rfl
      · exact (Own.one hown).2) fun w36 hf2 hr2 => ⟨_, rfl, hr2.all, av, rfl, ?_, ?_⟩
    · exact Own.slI (Own.fr hown hf2 fun k hk e => by have := (Own.lt hown hk).1; omega)
    · exact (g1.fr (S := fun i => w1.heap.size ≤ i) ((Fr.of_grow g3).trans ((Fr.of_grow g6).trans ((hf.mono fun i _ e => by omega).trans (hf2.mono fun i _ e => by omega)))) fun i hi e => by omega)
theorem refImage_c {w : World} {r : Int} {u hv : Value} {xs h : List Int} (hx : SlI w u xs) (hh : SlI w hv h) (hb : ∀ x ∈ xs, x < (h.length : Int)) (hlen : xs.length ≤ 1000) : Calls Try.prog 75 #[.agg #[.int .i64 r, u], hv] w fun e w' => ∃ v, e = .returned (.agg #[.int .i64 r, v]) ∧ SlI w' v (xs.map (imgT h)) ∧ Grow w w' := by
  refine f75_calls _ _ ?_
  refine ⟨_, rfl, fun w1 hw1 w3 hw3 => ?_⟩
  have g1 := alloc_grow hw1
  have g3 := alloc_grow hw3
  have s1 := alloc_size hw1
  have s3 := alloc_size hw3
  have hR := RecV.new hw3
  refine ⟨r, g3.cell (boxc hw1 0 _ rfl), fun w5 hw5 => RecV.init (cs := [.int .i64 r, .slice none 0 0]) hw5 rfl (by
    intro y hy
    simp at hy
    rcases hy with rfl | rfl <;> rfl) fun w6 g6 s6 hC => ?_⟩
  have g06 := (g1.trans g3).trans g6
  refine ⟨u, (g3.trans g6).cell (boxc hw1 1 _ rfl), (hx.grow g06).ln ?_⟩
  refine ⟨fun t w' => ∃ (p : Nat) (av : Value), t = p ∧ p ≤ xs.length ∧ RecV w' w3.heap.size [.int .i64 r, av] ∧ OwnI w' w6.heap.size av ((xs.take p).map (imgT h)) ∧ Fr (fun b => b = w3.heap.size ∨ w6.heap.size ≤ b) w6 w', fun t _ => xs.length - t.toNat,
    ⟨0, _, rfl, by omega, hC, by simpa [OwnI] using Own.nil w6 w6.heap.size 3 1, Fr.refl _ _⟩, ?_⟩
  rintro - t w16 ⟨p, av, rfl, hp, hrc, hown, hf⟩
  have g16 : Grow w3 w16 := g6.fr hf fun i hi e => by omega
  have g016 := (g1.trans g3).trans g16
  refine condD (fun hlt => ?_) (fun hge => ?_)
  · have hpl : p < xs.length := by omega
    have hbx := hb _ (List.getElem_mem hpl)
    have next : ∀ {z : Int} {wl : World}, z = imgT h xs[p] → wl = w16.alloc (.cells #[.int .i64 z] 3) → PApp Try.prog 22 22 av (.slice (some ⟨w16.heap.size, 0, none⟩) 1 1) wl fun t w69 => oneV t ∧ (∃ old, w69.cell? (Addr.add ⟨w3.heap.size, 0, none⟩ 1) = some old) ∧ w69.frozen? (Addr.add ⟨w3.heap.size, 0, none⟩ 1) = false ∧ ∀ w70, w70 = w69.setCell (Addr.add ⟨w3.heap.size, 0, none⟩ 1) t →
        inR ((p : Int) + 1) ∧ ((∃ (p' : Nat) (av : Value), (p : Int) + 1 = p' ∧ p' ≤ xs.length ∧ RecV w70 w3.heap.size [.int .i64 r, av] ∧ OwnI w70 w6.heap.size av ((xs.take p').map (imgT h)) ∧ Fr (fun b => b = w3.heap.size ∨ w6.heap.size ≤ b) w6 w70) ∧ xs.length - Int.toNat ((p : Int) + 1) < xs.length - Int.toNat (p : Int)) := fun {z wl} hz hwl => by
      subst hz
      have gl := alloc_grow hwl
      refine papp1 el_int hwl hown rfl (by have := hf.size; omega) (by simp; omega) (by omega) ?_
      intro v2 w69 ho2 hf2 _
      have hne : ∀ k, some k = av.ownBlock → w6.heap.size ≤ k := fun k e => (Own.lt hown e.symm).1
      have hr2 : RecV w69 w3.heap.size [.int .i64 r, av] := (hrc.grow gl).fr hf2 fun e => by have := hne _ e; omega
      refine ⟨Own.one ho2, ⟨_, hr2.cell (j := 1) rfl⟩, hr2.free 1, fun w70 hw70 => ⟨by unfold inR; omega, ⟨p + 1, v2, by omega, by omega, hr2.set hw70, ?_, ?_⟩, by omega⟩⟩
      · have h9 : OwnI w69 w6.heap.size v2 ((xs.take (p + 1)).map (imgT h)) := by
          rw [List.take_succ_eq_append_getElem hpl, List.map_append]
          unfold OwnI
          rw [List.length_append, List.map_append]
          exact ho2
        exact Own.fr h9 (RecV.set_fr hw70) fun k hk e => by have := (Own.lt h9 hk).1; omega
      · exact hf.trans ((Fr.of_grow gl).trans ((hf2.mono fun k _ e => .inr (hne k e)).trans ((RecV.set_fr hw70).mono fun k _ e => .inl e)))
    refine (hx.grow g016).rd rfl hpl (condD (fun hpos => ?_) fun hneg => ?_)
    · have hk : (xs[p]).toNat < h.length := by omega
      refine (hh.grow g016).rd (i := (xs[p]).toNat) (by omega) hk ⟨av, hrc.cell (j := 1) rfl, fun wl hwl => next ?_ hwl⟩
      rw [imgT, if_pos hpos]; simp [List.getD, hk]
    · refine ⟨av, hrc.cell (j := 1) rfl, fun wl hwl => next ?_ hwl⟩
      rw [imgT, if_neg hneg]
  · have hpl : p = xs.length := by omega
    subst hpl
    rw [List.take_length] at hown
    refine ⟨_, rfl, hrc.all, ?_⟩
    refine RecV.store (cs := [.int .i64 r, av]) (hR.fr ((Fr.of_grow g6).trans hf) (by omega)) rfl (by
      intro y hy
      simp at hy
      rcases hy with rfl | rfl
      · rfl
      · exact (Own.one hown).2) fun w36 hf2 hr2 => ⟨_, rfl, hr2.all, av, rfl, ?_, ?_⟩
    · exact Own.slI (Own.fr hown hf2 fun k hk e => by have := (Own.lt hown hk).1; omega)
    · exact (g1.fr (S := fun i => w1.heap.size ≤ i) ((Fr.of_grow g3).trans ((Fr.of_grow g6).trans ((hf.mono fun i _ e => by omega).trans (hf2.mono fun i _ e => by omega)))) fun i hi e => by omega)
theorem sameAtom_c {w : World} {r s : Int} {t u : Value} {xs ys : List Int} (ht : SlI w t xs) (hu : SlI w u ys) : Calls Try.prog 71 #[.agg #[.int .i64 r, t], .agg #[.int .i64 s, u]] w (Ret w (.bool (decide (((r, xs) : Atm) = (s, ys))))) := by
  refine f71_calls _ _ ?_
  refine ⟨_, rfl, fun w1 hw1 => ⟨_, rfl, fun w3 hw3 => ?_⟩⟩
  have g1 := alloc_grow hw1
  have g3 := alloc_grow hw3
  have g03 := g1.trans g3
  refine ⟨r, g3.cell (boxc hw1 0 _ rfl), s, boxc hw3 0 _ rfl, condD (fun h => ?_) fun h => ⟨?_, g03⟩⟩
  · refine ⟨t, g3.cell (boxc hw1 1 _ rfl), u, boxc hw3 1 _ rfl, (equal_c (ht.grow g03) (hu.grow g03)).mono ?_⟩
    rintro e w2 ⟨rfl, g2⟩
    refine ⟨_, rfl, ?_, g03.trans g2⟩
    congr 2
    rw [decide_eq_decide, Prod.mk.injEq]
    exact ⟨fun e => ⟨h, e⟩, fun e => e.2⟩
  · congr 2
    symm
    rw [decide_eq_false_iff_not, Prod.mk.injEq]
    exact fun e => h e.1
theorem homEq1_c {w : World} {s : Int} {u hv pv : Value} {a : Atm} {ys h : List Int} {q1 q2 : Addr} (h0 : w.cell? (Addr.add q1 0) = some (.int .i64 a.1)) (h1 : w.cell? (Addr.add q1 1) = some pv) (hp : SlI w pv a.2) (h2 : w.cell? q2 = some hv) (hh : SlI w hv h) (hb : ∀ x ∈ a.2, x < (h.length : Int)) (hlen : a.2.length ≤ 1000) (hu : SlI w u ys) : Calls Try.prog 70 #[.agg #[.int .i64 s, u], .pointer (some q1), .pointer (some q2)] w (Ret w (.bool (decide (imgH h a = (s, ys))))) := by
  refine f70_calls _ _ _ ?_
  refine ⟨_, rfl, fun w1 hw1 m => ?_⟩
  have g1 := alloc_grow hw1
  have gm := g1.dr m
  obtain ⟨E0, hE0⟩ : ∃ E0, E0 = dr w1 m := ⟨_, rfl⟩
  have g0 : Grow w E0 := by rw [hE0]; exact gm
  have g1E : Grow w1 E0 := by rw [hE0]; exact (Grow.refl w1).dr m
  rw [← hE0]
  have r0 : Grow E0 E0 := Grow.refl _
  have pp : ∀ (t : Nat) (v : Value), [Value.int .i64 a.1, pv][t]? = some v → E0.cell? (Addr.add q1 t) = some v := two (g0.cell h0) (g0.cell h1)
  have bb : ∀ {E}, Grow E0 E → ∀ (t : Nat) (v : Value), [Value.int .i64 s, u][t]? = some v → E.cell? (Addr.add ⟨w.heap.size, 0, none⟩ t) = some v := fun g => two ((g1E.trans g).cell (boxc hw1 0 _ rfl)) ((g1E.trans g).cell (boxc hw1 1 _ rfl))
  have hc : E0.cell? q2 = some hv := g0.cell h2
  have callI : ∀ {Q : Ending → World → Prop}, (∀ v E, SlI E v (a.2.map (imgT h)) → Grow E0 E → Q (.returned (.agg #[.int .i64 a.1, v])) E) → Calls Try.prog 72 #[.agg #[.int .i64 a.1, pv], hv] E0 Q := fun hq => (image_c (hp.grow g0) (hh.grow g0) hb hlen).mono (by
    rintro e E ⟨v, rfl, hv, g⟩
    exact hq v E hv g)
  have fin : ∀ {E : World} {v : Value}, SlI E v (a.2.map (imgT h)) → Grow E0 E → Calls Try.prog 71 #[.agg #[.int .i64 a.1, v], .agg #[.int .i64 s, u]] E fun e w' => ∃ t : Bool, e = .returned (.bool t) ∧ Ret w (.bool (decide (imgH h a = (s, ys)))) (.returned (.bool t)) w' := fun hv g => (sameAtom_c hv (hu.grow (g0.trans g))).mono (by
    rintro e E ⟨rfl, g'⟩
    exact ⟨_, rfl, rfl, (g0.trans g).trans g'⟩)
  repeat' first
    | refine ⟨[_, _], rfl, pp, ?_⟩
    | refine ⟨[_, _], rfl, bb r0, ?_⟩
    | refine ⟨_, hc, ?_⟩
    | (refine callI ?_; intro v E hv gE; refine ⟨_, rfl, ?_⟩)
    | refine ⟨[_, _], rfl, bb ‹Grow E0 _›, ?_⟩
    | exact fin ‹SlI _ _ (a.2.map (imgT h))› ‹Grow E0 _›
    | refine And.intro ?_ ?_
theorem homEq2_c {w : World} {s : Int} {u hv pv : Value} {a : Atm} {ys h : List Int} {q1 q2 : Addr} (h0 : w.cell? (Addr.add q1 0) = some (.int .i64 a.1)) (h1 : w.cell? (Addr.add q1 1) = some pv) (hp : SlI w pv a.2) (h2 : w.cell? q2 = some hv) (hh : SlI w hv h) (hb : ∀ x ∈ a.2, x < (h.length : Int)) (hlen : a.2.length ≤ 1000) (hu : SlI w u ys) : Calls Try.prog 97 #[.agg #[.int .i64 s, u], .pointer (some q1), .pointer (some q2)] w (Ret w (.bool (decide (imgH h a = (s, ys))))) := by
  refine f97_calls _ _ _ ?_
  refine ⟨_, rfl, fun w1 hw1 m => ?_⟩
  have g1 := alloc_grow hw1
  have gm := g1.dr m
  obtain ⟨E0, hE0⟩ : ∃ E0, E0 = dr w1 m := ⟨_, rfl⟩
  have g0 : Grow w E0 := by rw [hE0]; exact gm
  have g1E : Grow w1 E0 := by rw [hE0]; exact (Grow.refl w1).dr m
  rw [← hE0]
  have r0 : Grow E0 E0 := Grow.refl _
  have pp : ∀ (t : Nat) (v : Value), [Value.int .i64 a.1, pv][t]? = some v → E0.cell? (Addr.add q1 t) = some v := two (g0.cell h0) (g0.cell h1)
  have bb : ∀ {E}, Grow E0 E → ∀ (t : Nat) (v : Value), [Value.int .i64 s, u][t]? = some v → E.cell? (Addr.add ⟨w.heap.size, 0, none⟩ t) = some v := fun g => two ((g1E.trans g).cell (boxc hw1 0 _ rfl)) ((g1E.trans g).cell (boxc hw1 1 _ rfl))
  have hc : E0.cell? q2 = some hv := g0.cell h2
  have callI : ∀ {Q : Ending → World → Prop}, (∀ v E, SlI E v (a.2.map (imgT h)) → Grow E0 E → Q (.returned (.agg #[.int .i64 a.1, v])) E) → Calls Try.prog 72 #[.agg #[.int .i64 a.1, pv], hv] E0 Q := fun hq => (image_c (hp.grow g0) (hh.grow g0) hb hlen).mono (by
    rintro e E ⟨v, rfl, hv, g⟩
    exact hq v E hv g)
  have fin : ∀ {E : World} {v : Value}, SlI E v (a.2.map (imgT h)) → Grow E0 E → Calls Try.prog 71 #[.agg #[.int .i64 a.1, v], .agg #[.int .i64 s, u]] E fun e w' => ∃ t : Bool, e = .returned (.bool t) ∧ Ret w (.bool (decide (imgH h a = (s, ys)))) (.returned (.bool t)) w' := fun hv g => (sameAtom_c hv (hu.grow (g0.trans g))).mono (by
    rintro e E ⟨rfl, g'⟩
    exact ⟨_, rfl, rfl, (g0.trans g).trans g'⟩)
  repeat' first
    | refine ⟨[_, _], rfl, pp, ?_⟩
    | refine ⟨[_, _], rfl, bb r0, ?_⟩
    | refine ⟨_, hc, ?_⟩
    | (refine callI ?_; intro v E hv gE; refine ⟨_, rfl, ?_⟩)
    | refine ⟨[_, _], rfl, bb ‹Grow E0 _›, ?_⟩
    | exact fin ‹SlI _ _ (a.2.map (imgT h))› ‹Grow E0 _›
    | refine And.intro ?_ ?_
theorem any_img {bq : List Atm} {x : Atm} : bq.any (fun b => decide (x = b)) = decide (x ∈ bq) := by
  rw [Bool.eq_iff_iff, List.any_eq_true, decide_eq_true_iff]
  constructor
  · rintro ⟨b, hb, e⟩
    have e : x = b := by simpa using e
    rw [e]; exact hb
  · intro h
    exact ⟨x, h, by simp⟩
theorem checkHom_c {w : World} {hpv bpv hqv bqv hv : Value} {hp hq h : List Int} {bp bq : List Atm} (shp : SlI w hpv hp) (sbp : SlA w bpv bp) (shq : SlI w hqv hq) (sbq : SlA w bqv bq) (sh : SlI w hv h) : Calls Try.prog 37 #[.agg #[hpv, bpv], .agg #[hqv, bqv], hv] w fun e w' => ∃ b : Bool, e = .returned (.tuple #[.bool b, .int .i64 (if okPQ hp bp hq bq = true then 0 else 2)]) ∧ (b = true ↔ okPQ hp bp hq bq = true ∧ IsHom hp bp hq bq h) ∧ Grow w w' := by
  refine f37_calls _ _ _ ?_
  refine ⟨_, rfl, fun w1 hw1 => ⟨_, rfl, fun w3 hw3 => ⟨sh.one, fun w5 hw5 => ?_⟩⟩⟩
  have g1 := alloc_grow hw1
  have g3 := alloc_grow hw3
  have g5 := alloc_grow hw5
  have g05 := (g1.trans g3).trans g5
  have p0 := (g3.trans g5).cell (boxc hw1 0 hpv rfl)
  have p1 := (g3.trans g5).cell (boxc hw1 1 bpv rfl)
  have q0 := g5.cell (boxc hw3 0 hqv rfl)
  have q1 := g5.cell (boxc hw3 1 bqv rfl)
  have hbox := Box.new hw5
  have err : ∀ {w'}, Grow w w' → ¬ okPQ hp bp hq bq = true → ∃ b : Bool, Ending.returned (.tuple #[.bool false, .int .i64 2]) = .returned (.tuple #[.bool b, .int .i64 (if okPQ hp bp hq bq = true then 0 else 2)]) ∧ (b = true ↔ okPQ hp bp hq bq = true ∧ IsHom hp bp hq bq h) ∧ Grow w w' := fun g hn => ⟨false, by rw [if_neg hn], by simp [hn], g⟩
  have e1 : okQ hp bp = false → ¬ okPQ hp bp hq bq = true := fun h => by simp [okPQ, h]
  have e2 : okQ hq bq = false → ¬ okPQ hp bp hq bq = true := fun h => by simp [okPQ, h]
  have e3 : ¬ hp.length = hq.length → ¬ okPQ hp bp hq bq = true := fun h => by simp [okPQ, h]
  refine ⟨[_, _], rfl, two p0 p1, (valid_c (shp.grow g05) (sbp.gr g05)).mono ?_⟩
  rintro e w7 ⟨rfl, g7⟩
  have g07 := g05.trans g7
  refine ⟨_, rfl, condP_i (fun h1 => err g07 (e1 (by simpa using h1))) fun h1 => ?_⟩
  have h1 : okQ hp bp = true := by simpa using h1
  refine ⟨[_, _], rfl, two (g7.cell q0) (g7.cell q1), (valid_c (shq.grow g07) (sbq.gr g07)).mono ?_⟩
  rintro e w11 ⟨rfl, g11⟩
  have g011 := g07.trans g11
  have g511 := g7.trans g11
  refine ⟨_, rfl, condP_i (fun h2 => err g011 (e2 (by simpa using h2))) fun h2 => ?_⟩
  have h2 : okQ hq bq = true := by simpa using h2
  have l1 := shp.len_le
  have l2 := shq.len_le
  refine ⟨_, g511.cell p0, (shp.grow g011).ln ⟨_, g511.cell q0, (shq.grow g011).ln (condP_i (fun h3 => err g011 (e3 (by simp at h3; omega))) fun h3 => ?_)⟩⟩
  have h3 : hp.length = hq.length := by simp at h3; omega
  have ok : okPQ hp bp hq bq = true := by simp [okPQ, h1, h2, h3]
  rw [if_pos ok]
  have no : ∀ {w'}, Grow w w' → ¬ IsHom hp bp hq bq h → ∃ b : Bool, Ending.returned (.tuple #[.bool false, .int .i64 0]) = .returned (.tuple #[.bool b, .int .i64 0]) ∧ (b = true ↔ okPQ hp bp hq bq = true ∧ IsHom hp bp hq bq h) ∧ Grow w w' := fun g hn => ⟨false, rfl, by simp [hn], g⟩
  have l3 := sh.len_le
  refine ⟨hv, g511.cell hbox.cell, (sh.grow g011).ln (condP_i (fun h4 => no g011 fun hH => by have := hH.len; simp at h4; omega) fun h4 => ?_)⟩
  have h4 : h.length = 8 := by simp at h4; omega
  have obp : ∀ a ∈ bp, okA a = true := fun a ha => by
    simp only [okQ, Bool.and_eq_true, List.all_eq_true] at h1
    exact h1.1.2 a ha
  refine ⟨[_, _], rfl, two (g511.cell p0) (g511.cell p1), (queryVars_c (sbp.gr g011) obp).mono ?_⟩
  rintro e w27 ⟨rfl, g27⟩
  have g027 := g011.trans g27
  have hvl := varsB_lt obp
  refine ⟨_, rfl, hv, (g511.trans g27).cell hbox.cell, (sh.grow g027).ln ?_⟩
  refine ⟨fun t w' => ∃ i : Nat, t = i ∧ i ≤ 8 ∧ (∀ j, j < i → if (varsB bp).testBit j = true then -9 ≤ h.getD j 0 ∧ h.getD j 0 ≤ 7 else h.getD j 0 = 99) ∧ w' = w27, fun t _ => 8 - t.toNat, ⟨0, rfl, by omega, fun j hj => by omega, rfl⟩, ?_⟩
  rintro - t w38 ⟨i, rfl, hi, hocc, rfl⟩
  refine condD (fun hlt => ?_) (fun hge => ?_)
  · have hil : i < h.length := by omega
    have hgi : h.getD i 0 = h[i] := by simp [List.getD, hil]
    have step : (if (varsB bp).testBit i = true then -9 ≤ h.getD i 0 ∧ h.getD i 0 ≤ 7 else h.getD i 0 = 99) → inR ((i : Int) + 1) ∧ ((∃ i' : Nat, (i : Int) + 1 = i' ∧ i' ≤ 8 ∧ (∀ j, j < i' → if (varsB bp).testBit j = true then -9 ≤ h.getD j 0 ∧ h.getD j 0 ≤ 7 else h.getD j 0 = 99) ∧ w38 = w38) ∧ 8 - Int.toNat ((i : Int) + 1) < 8 - Int.toNat (i : Int)) := fun hs => ⟨by unfold inR; omega, ⟨i + 1, by omega, by omega, fun j hj => by
      rcases Nat.lt_or_ge j i with h9 | h9
      · exact hocc j h9
      · have : j = i := by omega
        subst this; exact hs, rfl⟩, by omega⟩
    refine (sh.grow g027).rd rfl hil ⟨by omega, condD (fun hz => ?_) fun hz => ?_⟩
    · rw [bit_zero (by omega)] at hz
      refine condP_i (fun h5 => no g027 fun hH => ?_) fun h5 => ⟨by omega, condD (fun h6 => ?_) fun h6 => ?_⟩
      · have h5 : ¬ h[i] = 99 := by simpa using h5
        have := hH.occ i (by omega)
        rw [hz, if_neg (by simp), hgi] at this
        exact h5 this
      · rw [bit_one (by omega), hz] at h6
        cases h6
      · have h5 : h[i] = 99 := by simpa using h5
        exact step (by rw [hz, if_neg (by simp), hgi]; exact h5)
    · have hb : (varsB bp).testBit i = true := by
        rw [bit_zero (by omega)] at hz
        simpa using hz
      refine ⟨by omega, condD (fun h6 => condD (fun h7 => no g027 fun hH => ?_) fun h7 => condD (fun h8 => no g027 fun hH => ?_) fun h8 => ?_) fun h6 => absurd ((bit_one (by omega)).2 hb) h6⟩
      · have := hH.occ i (by omega)
        rw [if_pos hb, hgi] at this
        omega
      · have := hH.occ i (by omega)
        rw [if_pos hb, hgi] at this
        omega
      · exact step (by rw [if_pos hb, hgi]; omega)
  · have hil : i = 8 := by omega
    subst hil
    have hhd := okQ_head h1
    refine ⟨_, (g511.trans g27).cell p0, (shp.grow g027).ln ?_⟩
    refine ⟨fun t w' => ∃ k : Nat, t = k ∧ k ≤ hp.length ∧ (∀ j (hj : j < hp.length), j < k → h.getD (hp[j]).toNat 0 = hq.getD j 0) ∧ Grow w38 w', fun t _ => hp.length - t.toNat, ⟨0, rfl, by omega, fun j _ hj => by omega, Grow.refl _⟩, ?_⟩
    rintro - t w51 ⟨k, rfl, hk, hhead, g51⟩
    have g051 := g027.trans g51
    have g551 := (g511.trans g27).trans g51
    refine condD (fun hlt2 => ?_) (fun hge2 => ?_)
    · have hkl : k < hp.length := by omega
      have hx := hhd _ (List.getElem_mem hkl)
      have hxl : (hp[k]).toNat < h.length := by omega
      have hkq : k < hq.length := by omega
      refine (shp.grow g051).rd rfl hkl ⟨hv, g551.cell hbox.cell, (sh.grow g051).rd (i := (hp[k]).toNat) (by omega) hxl ⟨hqv, g551.cell q0, (shq.grow g051).rd rfl hkq fun m => condP_i (fun h5 => no (g051.dr m) fun hH => ?_) fun h5 => ?_⟩⟩
      · have h5 : ¬ h[(hp[k]).toNat] = hq[k] := by simpa using h5
        have := hH.head k hkl
        simp only [List.getD, List.getElem?_eq_getElem hxl, List.getElem?_eq_getElem hkq, Option.getD_some] at this
        exact h5 this
      · have h5 : h[(hp[k]).toNat] = hq[k] := by simpa using h5
        refine ⟨by unfold inR; omega, ⟨k + 1, by omega, by omega, fun j hj hjk => ?_, g51.dr m⟩, by dsimp only; omega⟩
        by_cases e : j = k
        · subst e
          simp only [List.getD, List.getElem?_eq_getElem hxl, List.getElem?_eq_getElem hkq, Option.getD_some]
          exact h5
        · exact hhead j hj (by omega)
    · have hkl : k = hp.length := by omega
      subst hkl
      have hbl := okQ_len h1
      refine ⟨_, g551.cell p1, SlX.ln (sbp.gr g051) ?_⟩
      refine ⟨fun t w' => ∃ k : Nat, t = k ∧ k ≤ bp.length ∧ (∀ a ∈ bp.take k, imgH h a ∈ bq) ∧ Grow w51 w', fun t _ => bp.length - t.toNat, ⟨0, rfl, by omega, by simp, Grow.refl _⟩, ?_⟩
      rintro - t w75 ⟨k, rfl, hk3, hat, g75⟩
      have g075 := g051.trans g75
      refine condD (fun hlt3 => ?_) (fun hge3 => ?_)
      · have hkl : k < bp.length := by omega
        have hTa := okB_term h1 _ (List.getElem_mem hkl)
        have hal := (okA_iff.1 (obp _ (List.getElem_mem hkl))).2.2.2.1
        refine SlX.loc (sbp.gr g075) rfl hkl rfl fun w81 u g81 s81 hu c0 c1 => ?_
        have g081 := g075.trans g81
        have g581 := (g551.trans g75).trans g81
        refine ⟨bqv, g581.cell q1, (containsAtom_c (p := fun b => decide (imgH h bp[k] = b)) (sbq.gr g081) ⟨_, #[], #[_, _], rfl, by kernel_rfl, fun a ha w' u2 g hu2 => ?_⟩).mono ?_⟩
        · exact homEq1_c (a := bp[k]) (g.cell c0) (g.cell c1) (hu.grow g) (g.cell (g581.cell hbox.cell)) (sh.grow (g081.trans g)) (fun x hx => by have := hTa x hx; omega) (by omega) hu2
        · rintro e w84 ⟨rfl, g84⟩
          rw [any_img]
          refine ⟨_, rfl, condP_i (fun h5 => no (g081.trans g84) fun hH => ?_) fun h5 => ?_⟩
          · have h5 : ¬ imgH h bp[k] ∈ bq := by rw [Bool.not_eq_true'] at h5; exact of_decide_eq_false h5
            exact h5 (hH.atoms _ (List.getElem_mem hkl))
          · have h5 : imgH h bp[k] ∈ bq := by rw [Bool.not_eq_false'] at h5; exact of_decide_eq_true h5
            refine ⟨by unfold inR; omega, ⟨k + 1, by omega, by omega, fun a ha => ?_, (g75.trans g81).trans g84⟩, by dsimp only; omega⟩
            rw [List.take_succ_eq_append_getElem hkl] at ha
            rcases List.mem_append.1 ha with ha | ha
            · exact hat a ha
            · obtain rfl : a = bp[k] := by simpa using ha
              exact h5
      · have hkl : k = bp.length := by omega
        subst hkl
        rw [List.take_length] at hat
        exact ⟨true, rfl, ⟨fun _ => ⟨ok, ⟨h4, hocc, hat, fun j hj => hhead j hj hj⟩⟩, fun _ => rfl⟩, g075⟩
end Go.Proofs.Ytjkphmbjdleppaa
