/- Homomorphisms: what they are; the image of an atom; CheckHom. No condition. -/
import Derived.Test.YtleiddajojgmmaaMr
import Derived.Test.YtleiddajojgmmaaMx
import Derived.Test.YtleiddajojgmmaaMc
namespace Go.Proofs.Ytleiddajojgmmaa
open Go Go.RowKit VC
set_option linter.unusedSimpArgs false
set_option linter.unusedVariables false

def imgT (h : List Int) (x : Int) : Int := if 0 ≤ x then h.getD x.toNat 0 else x
def imgH (h : List Int) (a : Atm) : Atm := (a.1, a.2.map (imgT h))
/-- A homomorphism. -/
structure IsHom (hp : List Int) (bp : List Atm) (hq : List Int) (bq : List Atm) (h : List Int) : Prop where
  len : h.length = 8
  occ : ∀ i, i < 8 → if (varsB bp).testBit i = true then -9 ≤ h.getD i 0 ∧ h.getD i 0 ≤ 7 else h.getD i 0 = 99
  atoms : ∀ a ∈ bp, imgH h a ∈ bq
  head : ∀ k (hk : k < hp.length), h.getD (hp[k]).toNat 0 = hq.getD k 0
def okPQ (hp : List Int) (bp : List Atm) (hq : List Int) (bq : List Atm) : Bool := okQ hp bp && okQ hq bq && decide (hp.length = hq.length)
theorem bit_one {s i : Nat} (h : i < 63) : (iAnd .i64 (iShr .i64 (s : Int) (i : Int)) 1 = 1) ↔ s.testBit i = true := by
  rw [iBit _ (by omega), ibit_nat]
  cases s.testBit i <;> simp
theorem image_c {w : World} {r : Int} {u hv : Value} {xs h : List Int} (hx : SlI w u xs) (hh : SlI w hv h) (hb : ∀ x ∈ xs, x < (h.length : Int)) (hlen : xs.length ≤ 1000) : Calls Try.prog 87 #[.agg #[.int .i64 r, u], hv] w fun e w' => ∃ v, e = .returned (.agg #[.int .i64 r, v]) ∧ SlI w' v (xs.map (imgT h)) ∧ Grow w w' := by
  refine f87_calls _ _ ?_
  refine ⟨_, rfl, fun w1 hw1 w3 hw3 => ?_⟩
  have g1 := alloc_grow hw1
  have g3 := alloc_grow hw3
  have s1 := alloc_size hw1
  have s3 := alloc_size hw3
  have hR := RecV.new hw3
  refine ⟨r, g3.cell (boxc hw1 0 _ rfl), fun w5 hw5 => RecV.init (cs := [.int .i64 r, .slice none 0 0]) hw5 rfl (by
    intro y hy
    simp at hy
    rcases hy with rfl | rfl <;> rfl) fun w6 g6 s6 hC => ?_⟩
  have g06 := (g1.trans g3).trans g6
  refine ⟨u, (g3.trans g6).cell (boxc hw1 1 _ rfl), (hx.grow g06).ln ?_⟩
  refine ⟨fun t w' => ∃ (p : Nat) (av : Value), t = p ∧ p ≤ xs.length ∧ RecV w' w3.heap.size [.int .i64 r, av] ∧ OwnI w' w6.heap.size av ((xs.take p).map (imgT h)) ∧ Fr (fun b => b = w3.heap.size ∨ w6.heap.size ≤ b) w6 w', fun t _ => xs.length - t.toNat,
    ⟨0, _, rfl, by omega, hC, by simpa [OwnI] using Own.nil w6 w6.heap.size 3 1, Fr.refl _ _⟩, ?_⟩
  rintro - t w16 ⟨p, av, rfl, hp, hrc, hown, hf⟩
  have g16 : Grow w3 w16 := g6.fr hf fun i hi e => by omega
  have g016 := (g1.trans g3).trans g16
  refine condD (fun hlt => ?_) (fun hge => ?_)
  · have hpl : p < xs.length := by omega
    have hbx := hb _ (List.getElem_mem hpl)
    have next : ∀ {z : Int} {wl : World}, z = imgT h xs[p] → wl = w16.alloc (.cells #[.int .i64 z] 3) → PApp Try.prog 22 22 av (.slice (some ⟨w16.heap.size, 0, none⟩) 1 1) wl fun t w69 => oneV t ∧ (∃ old, w69.cell? (Addr.add ⟨w3.heap.size, 0, none⟩ 1) = some old) ∧ w69.frozen? (Addr.add ⟨w3.heap.size, 0, none⟩ 1) = false ∧ ∀ w70, w70 = w69.setCell (Addr.add ⟨w3.heap.size, 0, none⟩ 1) t →
        inR ((p : Int) + 1) ∧ ((∃ (p' : Nat) (av : Value), (p : Int) + 1 = p' ∧ p' ≤ xs.length ∧ RecV w70 w3.heap.size [.int .i64 r, av] ∧ OwnI w70 w6.heap.size av ((xs.take p').map (imgT h)) ∧ Fr (fun b => b = w3.heap.size ∨ w6.heap.size ≤ b) w6 w70) ∧ xs.length - Int.toNat ((p : Int) + 1) < xs.length - Int.toNat (p : Int)) := fun {z wl} hz hwl => by
      subst hz
      have gl := alloc_grow hwl
      refine papp1 el_int hwl hown rfl (by have := hf.size; omega) (by simp; omega) (by omega) ?_
      intro v2 w69 ho2 hf2 _
      have hne : ∀ k, some k = av.ownBlock → w6.heap.size ≤ k := fun k e => (Own.lt hown e.symm).1
      have hr2 : RecV w69 w3.heap.size [.int .i64 r, av] := (hrc.grow gl).fr hf2 fun e => by have := hne _ e; omega
      refine ⟨Own.one ho2, ⟨_, hr2.cell (j := 1) rfl⟩, hr2.free 1, fun w70 hw70 => ⟨by unfold inR; omega, ⟨p + 1, v2, by omega, by omega, hr2.set hw70, ?_, ?_⟩, by omega⟩⟩
      · have h9 : OwnI w69 w6.heap.size v2 ((xs.take (p + 1)).map (imgT h)) := by
          rw [List.take_succ_eq_append_getElem hpl, List.map_append]
          unfold OwnI
          rw [List.length_append, List.map_append]
          exact ho2
        exact Own.fr h9 (RecV.set_fr hw70) fun k hk e => by have := (Own.lt h9 hk).1; omega
      · exact hf.trans ((Fr.of_grow gl).trans ((hf2.mono fun k _ e => .inr (hne k e)).trans ((RecV.set_fr hw70).mono fun k _ e => .inl e)))
    refine (hx.grow g016).rd rfl hpl (condD (fun hpos => ?_) fun hneg => ?_)
    · have hk : (xs[p]).toNat < h.length := by omega
      refine (hh.grow g016).rd (i := (xs[p]).toNat) (by omega) hk ⟨av, hrc.cell (j := 1) rfl, fun wl hwl => next ?_ hwl⟩
      rw [imgT, if_pos hpos]; simp [List.getD, hk]
    · refine ⟨av, hrc.cell (j := 1) rfl, fun wl hwl => next ?_ hwl⟩
      rw [imgT, if_neg hneg]
  · have hpl : p = xs.length := by omega
    subst hpl
    rw [List.take_length] at hown
    refine ⟨_, rfl, hrc.all, ?_⟩
    refine RecV.store (cs := [.int .i64 r, av]) (hR.fr ((Fr.of_grow g6).trans hf) (by omega)) rfl (by
      intro y hy
      simp at hy
      rcases hy with rfl | rfl
      · rfl
      · exact (Own.one hown).2) fun w36 hf2 hr2 => ⟨_, rfl, hr2.all, av, rfl, ?_, ?_⟩
    · exact Own.slI (Own.fr hown hf2 fun k hk e => by have := (Own.lt hown hk).1; omega)
    · exact (g1.fr (S := fun i => w1.heap.size ≤ i) ((Fr.of_grow g3).trans ((Fr.of_grow g6).trans ((hf.mono fun i _ e => by omega).trans (hf2.mono fun i _ e => by omega)))) fun i hi e => by omega)
theorem sameAtom_c {w : World} {r s : Int} {t u : Value} {xs ys : List Int} (ht : SlI w t xs) (hu : SlI w u ys) : Calls Try.prog 86 #[.agg #[.int .i64 r, t], .agg #[.int .i64 s, u]] w (Ret w (.bool (decide (((r, xs) : Atm) = (s, ys))))) := by
  refine f86_calls _ _ ?_
  refine ⟨_, rfl, fun w1 hw1 => ⟨_, rfl, fun w3 hw3 => ?_⟩⟩
  have g1 := alloc_grow hw1
  have g3 := alloc_grow hw3
  have g03 := g1.trans g3
  refine ⟨r, g3.cell (boxc hw1 0 _ rfl), s, boxc hw3 0 _ rfl, condD (fun h => ?_) fun h => ⟨?_, g03⟩⟩
  · refine ⟨t, g3.cell (boxc hw1 1 _ rfl), u, boxc hw3 1 _ rfl, (equal_c (ht.grow g03) (hu.grow g03)).mono ?_⟩
    rintro e w2 ⟨rfl, g2⟩
    refine ⟨_, rfl, ?_, g03.trans g2⟩
    congr 2
    rw [decide_eq_decide, Prod.mk.injEq]
    exact ⟨fun e => ⟨h, e⟩, fun e => e.2⟩
  · congr 2
    symm
    rw [decide_eq_false_iff_not, Prod.mk.injEq]
    exact fun e => h e.1
theorem homEq2_c {w : World} {s : Int} {u hv pv : Value} {a : Atm} {ys h : List Int} {q1 q2 : Addr} (h0 : w.cell? (Addr.add q1 0) = some (.int .i64 a.1)) (h1 : w.cell? (Addr.add q1 1) = some pv) (hp : SlI w pv a.2) (h2 : w.cell? q2 = some hv) (hh : SlI w hv h) (hb : ∀ x ∈ a.2, x < (h.length : Int)) (hlen : a.2.length ≤ 1000) (hu : SlI w u ys) : Calls Try.prog 85 #[.agg #[.int .i64 s, u], .pointer (some q1), .pointer (some q2)] w (Ret w (.bool (decide (imgH h a = (s, ys))))) := by
  refine f85_calls _ _ _ ?_
  refine ⟨_, rfl, fun w1 hw1 m => ?_⟩
  have g1 := alloc_grow hw1
  have gm := g1.dr m
  obtain ⟨E0, hE0⟩ : ∃ E0, E0 = dr w1 m := ⟨_, rfl⟩
  have g0 : Grow w E0 := by rw [hE0]; exact gm
  have g1E : Grow w1 E0 := by rw [hE0]; exact (Grow.refl w1).dr m
  rw [← hE0]
  have r0 : Grow E0 E0 := Grow.refl _
  have pp : ∀ (t : Nat) (v : Value), [Value.int .i64 a.1, pv][t]? = some v → E0.cell? (Addr.add q1 t) = some v := two (g0.cell h0) (g0.cell h1)
  have bb : ∀ {E}, Grow E0 E → ∀ (t : Nat) (v : Value), [Value.int .i64 s, u][t]? = some v → E.cell? (Addr.add ⟨w.heap.size, 0, none⟩ t) = some v := fun g => two ((g1E.trans g).cell (boxc hw1 0 _ rfl)) ((g1E.trans g).cell (boxc hw1 1 _ rfl))
  have hc : E0.cell? q2 = some hv := g0.cell h2
  have callI : ∀ {Q : Ending → World → Prop}, (∀ v E, SlI E v (a.2.map (imgT h)) → Grow E0 E → Q (.returned (.agg #[.int .i64 a.1, v])) E) → Calls Try.prog 87 #[.agg #[.int .i64 a.1, pv], hv] E0 Q := fun hq => (image_c (hp.grow g0) (hh.grow g0) hb hlen).mono (by
    rintro e E ⟨v, rfl, hv, g⟩
    exact hq v E hv g)
  have fin : ∀ {E : World} {v : Value}, SlI E v (a.2.map (imgT h)) → Grow E0 E → Calls Try.prog 86 #[.agg #[.int .i64 a.1, v], .agg #[.int .i64 s, u]] E fun e w' => ∃ t : Bool, e = .returned (.bool t) ∧ Ret w (.bool (decide (imgH h a = (s, ys)))) (.returned (.bool t)) w' := fun hv g => (sameAtom_c hv (hu.grow (g0.trans g))).mono (by
    rintro e E ⟨rfl, g'⟩
    exact ⟨_, rfl, rfl, (g0.trans g).trans g'⟩)
  repeat' first
    | refine ⟨[_, _], rfl, pp, ?_⟩
    | refine ⟨[_, _], rfl, bb r0, ?_⟩
    | refine ⟨_, hc, ?_⟩
    | (refine callI ?_; intro v E hv gE; refine ⟨_, rfl, ?_⟩)
    | refine ⟨[_, _], rfl, bb ‹Grow E0 _›, ?_⟩
    | exact fin ‹SlI _ _ (a.2.map (imgT h))› ‹Grow E0 _›
    | refine And.intro ?_ ?_
theorem any_img {bq : List Atm} {x : Atm} : bq.any (fun b => decide (x = b)) = decide (x ∈ bq) := by
  rw [Bool.eq_iff_iff, List.any_eq_true, decide_eq_true_iff]
  constructor
  · rintro ⟨b, hb, e⟩
    have e : x = b := by simpa using e
    rw [e]; exact hb
  · intro h
    exact ⟨x, h, by simp⟩
end Go.Proofs.Ytleiddajojgmmaa

/- The first homomorphism: what it is; the program's search. No condition. -/
namespace Go.Proofs.Ytleiddajojgmmaa
open Go Go.RowKit VC
set_option linter.unusedSimpArgs false
set_option linter.unusedVariables false

/-! ## The first -/
/-- The first of what P holds of. -/
def FirstL (P : List Int → Prop) : Option (List Int) → Prop
  | some h => P h ∧ ∀ h', P h' → cmpL h h' ≤ 0
  | none => ∀ h, ¬ P h
theorem FirstL.uniq {P : List Int → Prop} : ∀ {o o' : Option (List Int)}, FirstL P o → FirstL P o' → o = o'
  | none, none, _, _ => rfl
  | none, some h, h1, h2 => absurd h2.1 (h1 h)
  | some h, none, h1, h2 => absurd h1.1 (h2 h)
  | some h, some g, h1, h2 => by
    have a := h1.2 g h2.1
    have b := h2.2 h h1.1
    have := cmpL_swap h g
    rw [cmpL_zero.1 (show cmpL h g = 0 by omega)]
theorem FirstL.congr {P Q : List Int → Prop} (hpq : ∀ h, P h ↔ Q h) {o : Option (List Int)} (h : FirstL P o) : FirstL Q o := by
  cases o with
  | none => exact fun g hg => h g ((hpq g).2 hg)
  | some x => exact ⟨(hpq x).1 h.1, fun g hg => h.2 g ((hpq g).2 hg)⟩
theorem cmpL_pre (p u v : List Int) : cmpL (p ++ u) (p ++ v) = cmpL u v := by
  induction p with
  | nil => rfl
  | cons a r ih =>
    rw [List.cons_append, List.cons_append, cmpL]
    have : cmpI a a = 0 := cmpI_zero.2 rfl
    rw [if_pos this, ih]
theorem cmpL_at {g h : List Int} {x : Nat} (hg : x < g.length) (hh : x < h.length) (hpre : g.take x = h.take x) (hlt : g[x] < h[x]) : cmpL g h < 0 := by
  rw [← List.take_append_drop x g, ← List.take_append_drop x h, hpre, cmpL_pre, List.drop_eq_getElem_cons hg, List.drop_eq_getElem_cons hh, cmpL]
  have : cmpI g[x] h[x] = -1 := by unfold cmpI; rw [if_pos hlt]
  rw [this, if_neg (by decide)]
  decide
theorem take_ext {g h : List Int} {x : Nat} (hg : x ≤ g.length) (hh : x ≤ h.length) (he : ∀ i, i < x → g.getD i 0 = h.getD i 0) : g.take x = h.take x := by
  apply List.ext_getElem (by simp; omega)
  intro i h1 h2
  have hi : i < x := by simp at h1; omega
  have := he i hi
  simp only [List.getElem_take]
  simpa [List.getD, show i < g.length by omega, show i < h.length by omega] using this
/-- A homomorphism that agrees with what is known (99: not known). -/
def AgH (hp : List Int) (bp : List Atm) (hq : List Int) (bq : List Atm) (h : List Int) (g : List Int) : Prop := IsHom hp bp hq bq g ∧ ∀ i, i < 8 → h.getD i 0 ≠ 99 → g.getD i 0 = h.getD i 0
/-- What the search begins with at variable x. -/
structure StH (hp : List Int) (bp : List Atm) (hq : List Int) (x : Nat) (h : List Int) : Prop where
  len : h.length = 8
  term : ∀ i, i < 8 → h.getD i 0 ≠ 99 → (varsB bp).testBit i = true ∧ -9 ≤ h.getD i 0 ∧ h.getD i 0 ≤ 7
  done : ∀ i, i < x → i < 8 → (varsB bp).testBit i = true → h.getD i 0 ≠ 99
  head : ∀ k (hk : k < hp.length), h.getD (hp[k]).toNat 0 = hq.getD k 0
/-- All variables of an atom are known. -/
def KnA (h : List Int) (a : Atm) : Prop := ∀ y ∈ a.2, y < 0 ∨ h.getD y.toNat 0 ≠ 99
section
variable {hp hq : List Int} {bp bq : List Atm} {h g : List Int}
theorem imgH_ag (hT : ∀ a ∈ bp, TermA a) {a : Atm} (ha : a ∈ bp) (hk : KnA h a) (hg : ∀ i, i < 8 → h.getD i 0 ≠ 99 → g.getD i 0 = h.getD i 0) : imgH g a = imgH h a := by
  unfold imgH
  congr 1
  refine List.map_congr_left fun y hy => ?_
  unfold imgT
  split
  · have := hT a ha y hy
    rcases hk y hy with h1 | h1
    · omega
    · exact hg _ (by omega) h1
  · rfl
/-- An atom all of whose variables are known is not there: nothing agrees. -/
theorem none_of_atom (hT : ∀ a ∈ bp, TermA a) {a : Atm} (ha : a ∈ bp) (hk : KnA h a) (hn : imgH h a ∉ bq) : FirstL (AgH hp bp hq bq h) none := fun g hg => hn (by
  rw [← imgH_ag hT ha hk hg.2]
  exact hg.1.atoms a ha)
/-- All is known: it is a homomorphism itself. -/
theorem first_all (hT : ∀ a ∈ bp, TermA a) (hS : StH hp bp hq 8 h) (hat : ∀ a ∈ bp, KnA h a → imgH h a ∈ bq) : FirstL (AgH hp bp hq bq h) (some h) := by
  have kn : ∀ a ∈ bp, KnA h a := fun a ha y hy => by
    have := hT a ha y hy
    rcases Int.lt_or_le y 0 with h1 | h1
    · exact .inl h1
    · refine .inr (hS.done _ (by omega) (by omega) (varsB_bit.2 (List.mem_flatMap.2 ⟨a, ha, ?_⟩)))
      rwa [Int.toNat_of_nonneg h1]
  have hom : IsHom hp bp hq bq h := ⟨hS.len, fun i hi => by
    split
    · rename_i hb
      exact (hS.term i hi (hS.done i hi hi hb)).2
    · rename_i hb
      exact Classical.byContradiction fun hn => hb (hS.term i hi hn).1, fun a ha => hat a ha (kn a ha), hS.head⟩
  refine ⟨⟨hom, fun _ _ _ => rfl⟩, fun g hg => ?_⟩
  have : h = g := vals_ext hS.len hg.1.len fun i hi => by
    by_cases hb : (varsB bp).testBit i = true
    · exact (hg.2 i hi (hS.done i hi hi hb)).symm
    · have h1 := hom.occ i hi
      have h2 := hg.1.occ i hi
      rw [if_neg hb] at h1 h2
      rw [h1, h2]
  rw [this, cmpL_self]
  omega
/-- A variable is given a term. -/
theorem StH.put {x : Nat} {t : Int} (hS : StH hp bp hq x h) (hx : x < 8) (hb : (varsB bp).testBit x = true) (h0 : h.getD x 0 = 99) (ht : -9 ≤ t ∧ t ≤ 7) (hqt : ∀ k, k < hp.length → hq.getD k 0 ≤ 7) : StH hp bp hq (x + 1) (h.set x t) := by
  have hl := hS.len
  have gs : ∀ i, (h.set x t).getD i 0 = if i = x then t else h.getD i 0 := fun i => getD_set h (by omega) t
  refine ⟨by simpa using hl, fun i hi hn => ?_, fun i hi hi8 hbi => ?_, fun k hk => ?_⟩
  · rw [gs] at hn ⊢
    by_cases e : i = x
    · subst e; simp only [if_true]; exact ⟨hb, ht⟩
    · rw [if_neg e] at hn ⊢; exact hS.term i hi hn
  · rw [gs]
    by_cases e : i = x
    · rw [if_pos e]; omega
    · rw [if_neg e]; exact hS.done i (by omega) hi8 hbi
  · rw [gs]
    have h1 := hS.head k hk
    by_cases e : (hp[k]).toNat = x
    · rw [e, h0] at h1
      have := hqt k hk
      omega
    · rw [if_neg e]; exact h1
theorem AgH.set {x : Nat} {t : Int} (hl : h.length = 8) (hx : x < 8) (h0 : h.getD x 0 = 99) : AgH hp bp hq bq (h.set x t) g → t ≠ 99 → AgH hp bp hq bq h g ∧ g.getD x 0 = t := fun ⟨h1, h2⟩ ht => by
  have gs : ∀ i, (h.set x t).getD i 0 = if i = x then t else h.getD i 0 := fun i => getD_set h (by omega) t
  refine ⟨⟨h1, fun i hi hn => ?_⟩, ?_⟩
  · have hne : i ≠ x := fun e => hn (e ▸ h0)
    have := h2 i hi (by rw [gs, if_neg hne]; exact hn)
    rwa [gs, if_neg hne] at this
  · have := h2 x hx (by rw [gs, if_pos rfl]; exact ht)
    rwa [gs, if_pos rfl] at this
theorem AgH.put {x : Nat} (hl : h.length = 8) (hx : x < 8) (hg : AgH hp bp hq bq h g) : AgH hp bp hq bq (h.set x (g.getD x 0)) g := by
  have gs : ∀ i, (h.set x (g.getD x 0)).getD i 0 = if i = x then g.getD x 0 else h.getD i 0 := fun i => getD_set h (by omega) _
  refine ⟨hg.1, fun i hi hn => ?_⟩
  rw [gs] at hn ⊢
  by_cases e : i = x
  · subst e; rw [if_pos rfl]
  · rw [if_neg e] at hn ⊢
    exact hg.2 i hi hn
/-- Terms are tried from the least one on. -/
theorem first_some {x : Nat} {t : Int} {r : List Int} (hS : StH hp bp hq x h) (hx : x < 8) (hb : (varsB bp).testBit x = true) (h0 : h.getD x 0 = 99) (ht : -9 ≤ t ∧ t ≤ 7) (hno : ∀ t', -9 ≤ t' → t' < t → FirstL (AgH hp bp hq bq (h.set x t')) none) (hr : FirstL (AgH hp bp hq bq (h.set x t)) (some r)) : FirstL (AgH hp bp hq bq h) (some r) := by
  have hl := hS.len
  obtain ⟨hr1, hr2⟩ := hr
  obtain ⟨hr3, hr4⟩ := hr1.set hl hx h0 (by omega)
  refine ⟨hr3, fun g hg => ?_⟩
  have hgt := hg.1.occ x hx
  rw [if_pos hb] at hgt
  rcases Int.lt_trichotomy (g.getD x 0) t with h1 | h1 | h1
  · exact absurd (hg.put hl hx) (hno _ hgt.1 h1 g)
  · exact hr2 g (h1 ▸ hg.put hl hx)
  · have hrl := hr3.1.len
    have hgl := hg.1.len
    have e1 : r.getD x 0 = r[x] := by simp [List.getD, hrl, hx]
    have e2 : g.getD x 0 = g[x] := by simp [List.getD, hgl, hx]
    have := cmpL_at (g := r) (h := g) (x := x) (by omega) (by omega) (take_ext (by omega) (by omega) fun i hi => by
      by_cases hbi : (varsB bp).testBit i = true
      · have hk := hS.done i hi (by omega) hbi
        rw [hr3.2 i (by omega) hk, hg.2 i (by omega) hk]
      · have a1 := hr3.1.occ i (by omega)
        have a2 := hg.1.occ i (by omega)
        rw [if_neg hbi] at a1 a2
        rw [a1, a2]) (by omega)
    omega
theorem first_none {x : Nat} (hS : StH hp bp hq x h) (hx : x < 8) (hb : (varsB bp).testBit x = true) (hno : ∀ t', -9 ≤ t' → t' ≤ 7 → FirstL (AgH hp bp hq bq (h.set x t')) none) : FirstL (AgH hp bp hq bq h) none := fun g hg => by
  have hgt := hg.1.occ x hx
  rw [if_pos hb] at hgt
  exact hno _ hgt.1 hgt.2 g (hg.put hS.len hx)
theorem StH.skip {x y : Nat} (hS : StH hp bp hq x h) (hxy : ∀ i, x ≤ i → i < y → i < 8 → (varsB bp).testBit i = true → h.getD i 0 ≠ 99) : StH hp bp hq y h := ⟨hS.len, hS.term, fun i hi hi8 hb => by
  rcases Nat.lt_or_ge i x with h1 | h1
  · exact hS.done i h1 hi8 hb
  · exact hxy i h1 hi hi8 hb, hS.head⟩
end
/-! ## The program's search -/
structure HomEnv (w0 w1 : World) (g : Nat) (bpv bqv : Value) (bp bq : List Atm) (q1 q2 q3 q4 q5 : Addr) : Prop where
  c1 : w1.cell? (Addr.add q1 1) = some bpv
  c3 : w1.cell? (Addr.add q3 1) = some bqv
  c2 : w1.cell? q2 = some (.slice (some ⟨g, 0, none⟩) 8 8)
  c4 : w1.cell? q4 = some (.int .i64 (varsB bp : Nat))
  c5 : w1.cell? q5 = some (.func (.func 84) #[] #[.pointer (some q1), .pointer (some q2), .pointer (some q3), .pointer (some q4), .pointer (some q5)])
  n1 : q1.block ≠ g
  n2 : q2.block ≠ g
  n3 : q3.block ≠ g
  n4 : q4.block ≠ g
  n5 : q5.block ≠ g
  sp : SlA w0 bpv bp
  sq : SlA w0 bqv bq
  gr : Grow w0 w1
  hg : w0.heap.size ≤ g
abbrev OwnH (w : World) (g : Nat) (h : List Int) : Prop := OwnI w g (.slice (some ⟨g, 0, none⟩) 8 8) h
theorem try_c {w0 w1 : World} {g : Nat} {bpv bqv : Value} {hp hq : List Int} {bp bq : List Atm} {q1 q2 q3 q4 q5 : Addr} (E : HomEnv w0 w1 g bpv bqv bp bq q1 q2 q3 q4 q5) (okp : okQ hp bp = true) (okq : okQ hq bq = true) (hlen : hp.length = hq.length) : ∀ (n x : Nat) (h : List Int) (w : World), x ≤ 8 → 8 - x ≤ n → Fr (fun k => k = g) w1 w → OwnH w g h → StH hp bp hq x h →
    Calls Try.prog 84 #[.int .i64 (x : Int), .pointer (some q1), .pointer (some q2), .pointer (some q3), .pointer (some q4), .pointer (some q5)] w fun e w' => ∃ (b : Bool) (h' : List Int), e = .returned (.bool b) ∧ Fr (fun k => k = g) w w' ∧ OwnH w' g h' ∧ (if b = true then FirstL (AgH hp bp hq bq h) (some h') else h' = h ∧ FirstL (AgH hp bp hq bq h) none) := by
  intro n
  induction n using Nat.strongRecOn with
  | ind n IH =>
  intro x h w hx hn hf how hS
  have hT := okB_term okp
  have obp : ∀ a ∈ bp, okA a = true := fun a ha => by
    simp only [okQ, Bool.and_eq_true, List.all_eq_true] at okp
    exact okp.1.2 a ha
  have hbl := okQ_len okp
  have hhq := okQ_head okq
  have hqt : ∀ k, k < hp.length → hq.getD k 0 ≤ 7 := fun k hk => by
    have hk2 : k < hq.length := by omega
    have := hhq _ (List.getElem_mem hk2)
    simp only [List.getD, List.getElem?_eq_getElem hk2, Option.getD_some]
    omega
  have g0 : ∀ {w' : World}, Fr (fun k => k = g) w1 w' → Grow w0 w' := fun hf => E.gr.fr hf fun i hi e => by have := E.hg; omega
  have cell : ∀ {w' : World} {a : Addr} {v : Value}, w1.cell? a = some v → a.block ≠ g → Fr (fun k => k = g) w1 w' → w'.cell? a = some v := fun {w' a v} hc hne hf => hf.cell hc hne
  have hgw : g < w.heap.size := (Own.lt how rfl).2
  refine f84_calls _ _ _ _ _ _ ?_
  refine ⟨bpv, cell E.c1 (by rw [add_block]; exact E.n1) hf, SlX.ln (SlA.gr E.sp (g0 hf)) ?_⟩
  refine ⟨fun t w' => ∃ k : Nat, t = k ∧ k ≤ bp.length ∧ (∀ a ∈ bp.take k, KnA h a → imgH h a ∈ bq) ∧ Grow w w', fun t _ => bp.length - t.toNat, ⟨0, rfl, by omega, by simp, Grow.refl _⟩, ?_⟩
  rintro - t w9 ⟨k, rfl, hk, hat, g9⟩
  have hf9 : Fr (fun k => k = g) w1 w9 := hf.trans (Fr.of_grow g9)
  have ho9 : OwnH w9 g h := Own.grow how g9
  refine condD (fun hlt => ?_) (fun hge => ?_)
  · have hkl : k < bp.length := by omega
    have hTa := hT _ (List.getElem_mem hkl)
    have hal := (okA_iff.1 (obp _ (List.getElem_mem hkl))).2.2.2.1
    refine SlX.loc (SlA.gr E.sp (g0 hf9)) rfl hkl rfl fun w15 u g15 s15 hu c0 c1 => ?_
    have hf15 := hf9.trans (Fr.of_grow g15)
    have hul := hu.len_le
    refine ⟨u, c1, hu.ln ⟨fun kn t w' => ∃ j : Nat, t = j ∧ j ≤ bp[k].2.length ∧ (kn = true ↔ ∀ y ∈ bp[k].2.take j, y < 0 ∨ h.getD y.toNat 0 ≠ 99) ∧ w' = w15, fun _ t _ => bp[k].2.length - t.toNat, ⟨0, rfl, by omega, by simp, rfl⟩, ?_⟩⟩
    rintro - kn t w26 ⟨j, rfl, hj, hkn, rfl⟩
    have hI : SlI w26 (.slice (some ⟨g, 0, none⟩) 8 8) h := Own.slI (Own.grow ho9 g15)
    have hl8 := hS.len
    refine condD (fun hlt2 => ?_) (fun hge2 => ?_)
    · have hjl : j < bp[k].2.length := by omega
      have hy := hTa _ (List.getElem_mem hjl)
      have step : ∀ {b' : Bool}, (b' = true ↔ (kn = true ∧ (bp[k].2[j] < 0 ∨ h.getD (bp[k].2[j]).toNat 0 ≠ 99))) → inR ((j : Int) + 1) ∧ ((∃ j' : Nat, (j : Int) + 1 = j' ∧ j' ≤ bp[k].2.length ∧ (b' = true ↔ ∀ y ∈ bp[k].2.take j', y < 0 ∨ h.getD y.toNat 0 ≠ 99) ∧ w26 = w26) ∧ bp[k].2.length - Int.toNat ((j : Int) + 1) < bp[k].2.length - Int.toNat (j : Int)) := fun {b'} hb' => ⟨by unfold inR; omega, ⟨j + 1, by omega, by omega, by
        rw [hb', hkn, List.take_succ_eq_append_getElem hjl]
        constructor
        · rintro ⟨a1, a2⟩ y hy
          rcases List.mem_append.1 hy with hy | hy
          · exact a1 y hy
          · obtain rfl : y = bp[k].2[j] := by simpa using hy
            exact a2
        · intro a
          exact ⟨fun y hy => a y (List.mem_append.2 (.inl hy)), a _ (List.mem_append.2 (.inr (List.mem_singleton.2 rfl)))⟩, rfl⟩, by omega⟩
      refine hu.rd rfl hjl (condP_i (fun hk1 => condD (fun hneg => step ?_) fun hpos => ?_) fun hk1 => step ?_)
      · simp [hk1, hneg]
      · have hyl : (bp[k].2[j]).toNat < h.length := by omega
        refine ⟨_, cell E.c2 E.n2 hf15, hI.rd (i := (bp[k].2[j]).toNat) (by omega) hyl (step ?_)⟩
        have : h.getD (bp[k].2[j]).toNat 0 = h[(bp[k].2[j]).toNat] := by simp [List.getD, hyl]
        rw [this]
        simp [hk1, hpos]
      · simp [hk1]
    · have hjl : j = bp[k].2.length := by omega
      subst hjl
      rw [List.take_length] at hkn
      refine condP_i (fun hk1 => ?_) fun hk1 => ?_
      · have hkA : KnA h bp[k] := hkn.1 hk1
        refine ⟨bqv, cell E.c3 (by rw [add_block]; exact E.n3) hf15, (containsAtom_c (p := fun b => decide (imgH h bp[k] = b)) (SlA.gr E.sq (g0 hf15)) ⟨_, #[], #[_, _], rfl, by kernel_rfl, fun a ha w' u2 g' hu2 => ?_⟩).mono ?_⟩
        · exact homEq2_c (a := bp[k]) (g'.cell c0) (g'.cell c1) (hu.grow g') (g'.cell (cell E.c2 E.n2 hf15)) (hI.grow g') (fun x hx => by have := hTa x hx; omega) (by omega) hu2
        · rintro e w37 ⟨rfl, g37⟩
          rw [any_img]
          refine ⟨_, rfl, condP_i (fun h5 => ?_) fun h5 => ?_⟩
          · have h5 : ¬ imgH h bp[k] ∈ bq := by rw [Bool.not_eq_true'] at h5; exact of_decide_eq_false h5
            refine ⟨false, h, rfl, Fr.of_grow ((g9.trans g15).trans g37), Own.grow ho9 (g15.trans g37), ?_⟩
            rw [if_neg (by simp)]
            exact ⟨rfl, none_of_atom hT (List.getElem_mem hkl) hkA h5⟩
          · have h5 : imgH h bp[k] ∈ bq := by rw [Bool.not_eq_false'] at h5; exact of_decide_eq_true h5
            refine ⟨by unfold inR; omega, ⟨k + 1, by omega, by omega, fun a ha hka => ?_, (g9.trans g15).trans g37⟩, by dsimp only; omega⟩
            rw [List.take_succ_eq_append_getElem hkl] at ha
            rcases List.mem_append.1 ha with ha | ha
            · exact hat a ha hka
            · obtain rfl : a = bp[k] := by simpa using ha
              exact h5
      · refine ⟨by unfold inR; omega, ⟨k + 1, by omega, by omega, fun a ha hka => ?_, g9.trans g15⟩, by dsimp only; omega⟩
        rw [List.take_succ_eq_append_getElem hkl] at ha
        rcases List.mem_append.1 ha with ha | ha
        · exact hat a ha hka
        · obtain rfl : a = bp[k] := by simpa using ha
          rw [hkn.2 hka] at hk1
          cases hk1
  · have hkl : k = bp.length := by omega
    subst hkl
    rw [List.take_length] at hat
    have hl8 := hS.len
    have hI : SlI w9 (.slice (some ⟨g, 0, none⟩) 8 8) h := Own.slI ho9
    have c2 := cell E.c2 E.n2 hf9
    have c4 := cell E.c4 E.n4 hf9
    refine ⟨fun y w' => ∃ y' : Nat, y = y' ∧ y' ≤ 8 ∧ x ≤ y' ∧ StH hp bp hq y' h ∧ w' = w9 ∧ (y' < 8 → (varsB bp).testBit y' = true ∧ h.getD y' 0 = 99), ⟨fun y w' => ∃ y' : Nat, y = y' ∧ y' ≤ 8 ∧ x ≤ y' ∧ StH hp bp hq y' h ∧ w' = w9, fun y _ => 8 - y.toNat, ⟨x, rfl, hx, Nat.le_refl _, hS, rfl⟩, ?_⟩, ?_⟩
    · rintro - y w46 ⟨y', rfl, hy8, hxy, hSy, rfl⟩
      refine condD (fun hlt => ?_) (fun hge => ⟨y', rfl, hy8, hxy, hSy, rfl, fun h => by omega⟩)
      have hyl : y' < h.length := by omega
      have hgy : h.getD y' 0 = h[y'] := by simp [List.getD, hyl]
      have go : (h.getD y' 0 ≠ 99 ∨ (varsB bp).testBit y' = false) → inR ((y' : Int) + 1) ∧ ((∃ y'' : Nat, (y' : Int) + 1 = y'' ∧ y'' ≤ 8 ∧ x ≤ y'' ∧ StH hp bp hq y'' h ∧ w46 = w46) ∧ 8 - Int.toNat ((y' : Int) + 1) < 8 - Int.toNat (y' : Int)) := fun ho => by
        have hS2 : StH hp bp hq (y' + 1) h := hSy.skip fun i hi hi2 _ hb => by
          have : i = y' := by omega
          subst this
          rcases ho with ho | ho
          · exact ho
          · rw [ho] at hb; cases hb
        exact ⟨by unfold inR; omega, ⟨y' + 1, by omega, by omega, by omega, hS2, rfl⟩, by omega⟩
      refine ⟨_, c4, by omega, condD (fun hz => go (.inr ((bit_zero (by omega)).1 hz))) fun hz => ?_⟩
      refine ⟨_, c2, hI.rd rfl hyl (condP_i (fun h9 => go (.inl ?_)) fun h9 => ?_)⟩
      · rw [hgy]; simpa using h9
      · refine ⟨y', rfl, hy8, hxy, hSy, rfl, fun _ => ⟨?_, ?_⟩⟩
        · rw [bit_zero (by omega)] at hz
          simpa using hz
        · rw [hgy]; simpa using h9
    · rintro - y w54 ⟨y, rfl, hy8, hxy, hSy, rfl, hfree⟩
      refine condD (fun h8 => ?_) (fun hne => ?_)
      · have : y = 8 := by omega
        subst this
        refine ⟨true, h, rfl, Fr.of_grow g9, ho9, ?_⟩
        rw [if_pos rfl]
        exact first_all hT hSy hat
      · have hy : y < 8 := by omega
        obtain ⟨hb, h0⟩ := hfree hy
        have ay : ∀ {t : Int}, Addr.add ⟨g, 0, none⟩ (Int.toNat (y : Int) * 1) = ⟨g, y, none⟩ := fun {_} => by rw [Int.toNat_natCast, Nat.mul_one, Addr.add0]
        refine ⟨fun t w' => ∃ c : Int, -9 ≤ t ∧ t ≤ 8 ∧ Fr (fun k => k = g) w54 w' ∧ OwnH w' g (h.set y c) ∧ ∀ t', -9 ≤ t' → t' < t → FirstL (AgH hp bp hq bq (h.set y t')) none, fun t _ => (8 - t).toNat, ⟨99, by omega, by omega, Fr.refl _ _, by
          rw [set_same (by omega) h0]; exact ho9, fun t' h1 h2 => by omega⟩, ?_⟩
        rintro - t w59 ⟨c, ht1, ht2, hf59, ho59, hno⟩
        have hf159 := hf9.trans hf59
        have hln : (h.set y c).length = 8 := by simpa using hl8
        have ho59' : Own w59 g 3 1 (.slice (some ⟨g, 0, none⟩) 8 8) 8 ((h.set y c).map VC.encI) := by
          have h9 : Own w59 g 3 1 (.slice (some ⟨g, 0, none⟩) 8 8) (h.set y c).length ((h.set y c).map VC.encI) := ho59
          rwa [hln] at h9
        have put : ∀ {t : Int} {w64 : World}, w64 = w59.setCell ⟨g, y, none⟩ (.int .i64 t) → OwnH w64 g (h.set y t) := fun {t w64} hw => by
          have h9 := Own.set ho59' hy hw
          have e : ((h.set y c).map VC.encI).set y (Value.int .i64 t) = (h.set y t).map VC.encI := by
            rw [show Value.int .i64 t = VC.encI t from rfl, ← List.map_set, List.set_set]
          rw [e] at h9
          show Own w64 g 3 1 (.slice (some ⟨g, 0, none⟩) 8 8) (h.set y t).length ((h.set y t).map VC.encI)
          rw [show (h.set y t).length = 8 by simpa using hl8]
          exact h9
        refine condD (fun hlt => ?_) (fun hge => ?_)
        · refine ⟨_, cell E.c2 E.n2 hf159, ⟨g, 0, none⟩, 8, 8, rfl, ⟨by omega, by omega⟩, ?_⟩
          rw [ay (t := t)]
          refine ⟨(Own.wr ho59' hy).1, (Own.wr ho59' hy).2, fun w64 hw64 => ?_⟩
          have hf64 : Fr (fun k => k = g) w54 w64 := hf59.trans (set_fr hw64)
          have hf164 := hf9.trans hf64
          refine ⟨_, cell E.c5 E.n5 hf164, by unfold inR; omega, _, #[], _, rfl, by kernel_rfl, ?_⟩
          have hSt := hSy.put hy hb h0 (t := t) (by omega) hqt
          have e1 : (y : Int) + 1 = ((y + 1 : Nat) : Int) := by omega
          rw [e1]
          refine (IH (8 - (y + 1)) (by omega) (y + 1) (h.set y t) w64 (by omega) (by omega) hf164 (put hw64) hSt).mono ?_
          rintro e w66 ⟨b, h', rfl, hf66, ho66, hb66⟩
          refine ⟨_, rfl, condP_i (fun hbt => ?_) fun hbf => ?_⟩
          · subst hbt
            rw [if_pos rfl] at hb66
            refine ⟨true, h', rfl, (Fr.of_grow g9).trans (hf64.trans hf66), ho66, ?_⟩
            rw [if_pos rfl]
            exact first_some hSy hy hb h0 (by omega) hno hb66
          · subst hbf
            rw [if_neg (by simp)] at hb66
            obtain ⟨rfl, hnone⟩ := hb66
            refine ⟨by unfold inR; omega, ⟨t, by omega, by omega, hf64.trans hf66, ho66, fun t' h1 h2 => ?_⟩, by dsimp only; omega⟩
            rcases Int.lt_or_le t' t with h3 | h3
            · exact hno t' h1 h3
            · have : t' = t := by omega
              subst this; exact hnone
        · have ht8 : t = 8 := by omega
          subst ht8
          refine ⟨_, cell E.c2 E.n2 hf159, ⟨g, 0, none⟩, 8, 8, rfl, ⟨by omega, by omega⟩, ?_⟩
          rw [ay (t := 99)]
          refine ⟨(Own.wr ho59' hy).1, (Own.wr ho59' hy).2, fun w76 hw76 => ⟨false, h, rfl, (Fr.of_grow g9).trans (hf59.trans (set_fr hw76)), ?_, ?_⟩⟩
          · have := put hw76
            rwa [set_same (by omega) h0] at this
          · rw [if_neg (by simp)]
            exact ⟨rfl, first_none hSy hy hb fun t' h1 h2 => hno t' h1 (by omega)⟩
end Go.Proofs.Ytleiddajojgmmaa

/- append onto a full slice; nil compared. No condition. -/
namespace Go.Proofs.Ytleiddajojgmmaa
open Go Go.RowKit VC
set_option linter.unusedSimpArgs false
set_option linter.unusedVariables false

theorem nilNe {P : Program} {t e : TypeId} (ht : P.underlying t = some (.slice e)) {ox : Operand} {c : Value} {a : Option Addr} {n m : Nat} : PBinR P .neq t ox (.const c) (.slice a n m) (.slice none 0 0) a.isSome := by
  intro w
  have hg : eqGuard .neq t ox (.const c) (.slice a n m) (.slice none 0 0) = pure () := by simp [eqGuard_at_slice]
  simp only [hg, Sem.run_bind, Sem.run_pure, Result.andThen_ok]
  simp only [binOp]
  simp [Op.equal, Op.maxDepth, Lib.run_equalIn_slice_nil w 9999 t e a n m 0 0 ht]
end Go.Proofs.Ytleiddajojgmmaa

/- Contracts: the first homomorphism, by the program. No condition. -/
namespace Go.Proofs.Ytleiddajojgmmaa
open Go Go.RowKit VC
set_option linter.unusedSimpArgs false
set_option linter.unusedVariables false

theorem Own.self {w : World} {B : Nat} {e : TypeId} {sz g n c : Nat} {cs : List Value} (h : Own w B e sz (.slice (some ⟨g, 0, none⟩) n c) n cs) : Own w g e sz (.slice (some ⟨g, 0, none⟩) n c) n cs := by
  refine ⟨h.1, .inr ?_⟩
  rcases h.2 with ⟨h1, _⟩ | ⟨g', cap', cur, he, hb, rest⟩
  · cases h1
  · simp only [Value.slice.injEq, Option.some.injEq, Addr.mk.injEq, and_true, true_and] at he
    obtain ⟨rfl, rfl⟩ := he
    exact ⟨_, _, cur, rfl, Nat.le_refl _, rest⟩
/-- A homomorphism, or nil. -/
def HomV (w : World) (v : Value) : Option (List Int) → Prop
  | none => v = .slice none 0 0
  | some h => SlI w v h ∧ ∃ a n c, v = .slice (some a) n c
theorem HomV.gr {w w' : World} {v : Value} {o : Option (List Int)} (h : HomV w v o) (g : Grow w w') : HomV w' v o := by
  cases o with
  | none => exact h
  | some x => exact ⟨h.1.grow g, h.2⟩
/-- What is set of the Heads' first k. -/
structure HdI (hp hq : List Int) (k : Nat) (h : List Int) : Prop where
  len : h.length = 8
  set : ∀ i, i < 8 → (h.getD i 0 ≠ 99 ↔ ∃ j, j < k ∧ ∃ hj : j < hp.length, (hp[j]).toNat = i)
  val : ∀ j (hj : j < hp.length), j < k → h.getD (hp[j]).toNat 0 = hq.getD j 0
theorem hom_c {w : World} {hpv bpv hqv bqv : Value} {hp hq : List Int} {bp bq : List Atm} (shp : SlI w hpv hp) (sbp : SlA w bpv bp) (shq : SlI w hqv hq) (sbq : SlA w bqv bq) (okp : okQ hp bp = true) (okq : okQ hq bq = true) (hlen : hp.length = hq.length) :
    Calls Try.prog 42 #[.agg #[hpv, bpv], .agg #[hqv, bqv]] w fun e w' => ∃ v o, e = .returned v ∧ FirstL (IsHom hp bp hq bq) o ∧ HomV w' v o ∧ Grow w w' := by
  refine f42_calls _ _ ?_
  refine ⟨_, rfl, fun w1 hw1 => ⟨_, rfl, fun w3 hw3 w5 hw5 => ?_⟩⟩
  have g1 := alloc_grow hw1
  have g3 := alloc_grow hw3
  have g5 := alloc_grow hw5
  have s1 := alloc_size hw1
  have s3 := alloc_size hw3
  have s5 := alloc_size hw5
  have g05 := (g1.trans g3).trans g5
  have p0 := (g3.trans g5).cell (boxc hw1 0 hpv rfl)
  have p1 := (g3.trans g5).cell (boxc hw1 1 bpv rfl)
  have q0 := g5.cell (boxc hw3 0 hqv rfl)
  have q1 := g5.cell (boxc hw3 1 bqv rfl)
  have h99 := slI_lit (xs := [99]) hw5 rfl (by simp)
  refine (repeat_c (n := 8) (z := 99) h99 (by omega) (by omega)).mono ?_
  rintro e w6 ⟨g, rfl, how6, g6⟩
  have hg1 := (Own.lt how6 (k := g) rfl)
  have ho6 : OwnH w6 g (List.replicate 8 99) := by
    have h9 : Own w6 w5.heap.size 3 1 (.slice (some ⟨g, 0, none⟩) 8 8) 8 ((List.replicate 8 (99 : Int)).map VC.encI) := how6
    exact Own.self h9
  refine ⟨_, rfl, fun w9 hw9 => ?_⟩
  have g9 := alloc_grow hw9
  have s9 := alloc_size hw9
  have hb9 := Box.new hw9
  refine ⟨Own.one ho6, ⟨_, hb9.cell⟩, hb9.free, fun w10 hw10 => ?_⟩
  have hb10 := hb9.set hw10
  have f10 : Fr (fun k => k = w6.heap.size) w9 w10 := set_fr hw10
  have g610 : Grow w6 w10 := g9.fr f10 fun i hi e => by omega
  have g510 := g6.trans g610
  have ho10 : OwnH w10 g (List.replicate 8 99) := Own.grow ho6 g610
  have hhp := okQ_head okp
  have hhq := okQ_head okq
  have obp : ∀ a ∈ bp, okA a = true := fun a ha => by
    simp only [okQ, Bool.and_eq_true, List.all_eq_true] at okp
    exact okp.1.2 a ha
  have hvl := varsB_lt obp
  have hbl := okQ_len okp
  have hql := okQ_len okq
  have gK : ∀ {w'}, Fr (fun k => k = g) w10 w' → Grow w5 w' := fun {w'} hf => g510.fr hf fun i hi e => by omega
  have hc : ∀ {w'}, Fr (fun k => k = g) w10 w' → ∀ {a : Addr} {v : Value}, w5.cell? a = some v → w'.cell? a = some v := fun {w'} hf {a v} h => (gK hf).cell h
  have hbx : ∀ {w'}, Fr (fun k => k = g) w10 w' → w'.cell? ⟨w6.heap.size, 0, none⟩ = some (.slice (some ⟨g, 0, none⟩) 8 8) := fun {w'} hf => hf.cell hb10.cell (by show ¬ w6.heap.size = g; omega)
  refine ⟨_, hc (Fr.refl _ _) p0, (shp.grow (g05.trans g510)).ln ?_⟩
  refine ⟨fun t w' => ∃ (k : Nat) (h : List Int), t = k ∧ k ≤ hp.length ∧ OwnH w' g h ∧ Fr (fun k => k = g) w10 w' ∧ HdI hp hq k h, fun t _ => hp.length - t.toNat, ⟨0, _, rfl, by omega, ho10, Fr.refl _ _, ⟨by simp, fun i hi => by
    have : (List.replicate 8 (99 : Int)).getD i 0 = 99 := by rw [List.getD, List.getElem?_replicate, if_pos hi]; rfl
    rw [this]
    simp, fun j _ hj => by omega⟩⟩, ?_⟩
  rintro - t w19 ⟨k, h, rfl, hk, how, hf, hI⟩
  have hl8 := hI.len
  have gw : ∀ {w'}, Fr (fun k => k = g) w10 w' → Grow w w' := fun {w'} hf => g05.trans (gK hf)
  refine condD (fun hlt => ?_) (fun hge => ?_)
  · have hkl : k < hp.length := by omega
    have hkq : k < hq.length := by omega
    obtain ⟨x, hx⟩ : ∃ x : Nat, hp[k] = x := ⟨(hp[k]).toNat, by have := hhp _ (List.getElem_mem hkl); omega⟩
    have hx8 : x < 8 := by have := hhp _ (List.getElem_mem hkl); omega
    have hxl : x < h.length := by omega
    have hgx : h.getD x 0 = h[x] := by simp [List.getD, hxl]
    have hgq : hq.getD k 0 = hq[k] := by simp [List.getD, hkq]
    have hq7 := hhq _ (List.getElem_mem hkq)
    have aX : Addr.add ⟨g, 0, none⟩ (Int.toNat (x : Int) * 1) = ⟨g, x, none⟩ := by rw [Int.toNat_natCast, Nat.mul_one, Addr.add0]
    -- the store, and what holds then
    have how8 : ∀ {w'}, Grow w19 w' → Own w' g 3 1 (.slice (some ⟨g, 0, none⟩) 8 8) 8 (h.map VC.encI) := fun gg => by
      have h9 : Own _ g 3 1 (.slice (some ⟨g, 0, none⟩) 8 8) h.length (h.map VC.encI) := Own.grow how gg
      rwa [hl8] at h9
    have nextI : (h[x] = 99 ∨ h[x] = hq[k]) → HdI hp hq (k + 1) (h.set x hq[k]) := fun hor => by
      have gs : ∀ i, (h.set x hq[k]).getD i 0 = if i = x then hq[k] else h.getD i 0 := fun i => getD_set h (by omega) _
      refine ⟨by simpa using hl8, fun i hi => ?_, fun j hj hjk => ?_⟩
      · rw [gs]
        by_cases e : i = x
        · subst e
          rw [if_pos rfl]
          exact ⟨fun _ => ⟨k, by omega, hkl, by rw [hx]; simp⟩, fun _ => by omega⟩
        · rw [if_neg e, hI.set i hi]
          constructor
          · rintro ⟨j, hj, hj2, hj3⟩
            exact ⟨j, by omega, hj2, hj3⟩
          · rintro ⟨j, hj, hj2, hj3⟩
            refine ⟨j, ?_, hj2, hj3⟩
            rcases Nat.lt_or_ge j k with h9 | h9
            · exact h9
            · have : j = k := by omega
              subst this
              rw [hx] at hj3
              simp at hj3
              omega
      · rw [gs]
        by_cases e : (hp[j]).toNat = x
        · rw [if_pos e]
          rcases Nat.lt_or_ge j k with h9 | h9
          · have h1 := hI.val j hj h9
            rw [e] at h1
            rcases hor with h2 | h2
            · exfalso
              have := (hI.set x hx8).2 ⟨j, h9, hj, e⟩
              exact this (by rw [hgx]; exact h2)
            · rw [← h1, hgx]; exact h2.symm
          · have : j = k := by omega
            subst this
            rw [hgq]
        · rw [if_neg e]
          rcases Nat.lt_or_ge j k with h9 | h9
          · exact hI.val j hj h9
          · have : j = k := by omega
            subst this
            rw [hx] at e
            simp at e
    have st : ∀ {w'}, Grow w19 w' → (h[x] = 99 ∨ h[x] = hq[k]) → ∃ (a : Addr) (n c : Nat), Value.slice (some ⟨g, 0, none⟩) 8 8 = Value.slice (some a) n c ∧ ((0 : Int) ≤ (x : Int) ∧ (x : Int) < (n : Int)) ∧ (∃ old, w'.cell? (a.add (Int.toNat (x : Int) * 1)) = some old) ∧ w'.frozen? (a.add (Int.toNat (x : Int) * 1)) = false ∧ ∀ w2, w2 = w'.setCell (a.add (Int.toNat (x : Int) * 1)) (Value.int .i64 hq[k]) →
        inR ((k : Int) + 1) ∧ ((∃ (k' : Nat) (h : List Int), (k : Int) + 1 = k' ∧ k' ≤ hp.length ∧ OwnH w2 g h ∧ Fr (fun k => k = g) w10 w2 ∧ HdI hp hq k' h) ∧ hp.length - Int.toNat ((k : Int) + 1) < hp.length - Int.toNat (k : Int)) := fun {w'} gg hor => by
      refine ⟨_, _, _, rfl, ⟨by omega, by omega⟩, ?_⟩
      rw [aX]
      · refine ⟨(Own.wr (how8 gg) hx8).1, (Own.wr (how8 gg) hx8).2, fun w2 hw2 => ⟨by unfold inR; omega, ⟨k + 1, h.set x hq[k], by omega, by omega, ?_, (hf.trans (Fr.of_grow gg)).trans (set_fr hw2), nextI hor⟩, by omega⟩⟩
        have h9 := Own.set (how8 gg) hx8 hw2
        have e : (h.map VC.encI).set x (Value.int .i64 hq[k]) = (h.set x hq[k]).map VC.encI := by
          rw [show Value.int .i64 hq[k] = VC.encI hq[k] from rfl, ← List.map_set]
        rw [e] at h9
        show Own w2 g 3 1 (.slice (some ⟨g, 0, none⟩) 8 8) (h.set x hq[k]).length ((h.set x hq[k]).map VC.encI)
        rw [show (h.set x hq[k]).length = 8 by simpa using hl8]
        exact h9
    have hSl : ∀ {w'}, Grow w19 w' → SlI w' (.slice (some ⟨g, 0, none⟩) 8 8) h := fun gg => Own.slI (Own.grow how gg)
    have bx : ∀ {w'}, Grow w19 w' → w'.cell? ⟨w6.heap.size, 0, none⟩ = some (.slice (some ⟨g, 0, none⟩) 8 8) := fun gg => hbx (hf.trans (Fr.of_grow gg))
    have qx : ∀ {w'}, Grow w19 w' → w'.cell? (Addr.add ⟨w1.heap.size, 0, none⟩ 0) = some hqv := fun gg => hc (hf.trans (Fr.of_grow gg)) q0
    have rq : ∀ {w'}, Grow w19 w' → SlI w' hqv hq := fun gg => shq.grow (gw (hf.trans (Fr.of_grow gg)))
    have r0 : Grow w19 w19 := Grow.refl _
    refine (shp.grow (gw hf)).rd rfl hkl ?_
    rw [hx]
    refine ⟨_, bx r0, (hSl r0).rd (j := (x : Int)) rfl hxl (condP_i (fun h9 => ?_) fun h9 => ?_)⟩
    · have h9 : ¬ h[x] = 99 := by simpa using h9
      refine ⟨_, bx r0, (hSl r0).rd (j := (x : Int)) rfl hxl ⟨_, qx r0, (rq r0).rd rfl hkq fun m => condP_i (fun h10 => ?_) fun h10 m2 => ?_⟩⟩
      · have h10 : ¬ h[x] = hq[k] := by simpa using h10
        refine ⟨_, none, rfl, fun f hF => ?_, rfl, (gw hf).dr m⟩
        obtain ⟨j, hjk, hj, hjx⟩ := (hI.set x hx8).1 (by rw [hgx]; exact h9)
        have a1 := hI.val j hj hjk
        have a2 := hF.head j hj
        have a3 := hF.head k hkl
        rw [hx, Int.toNat_natCast] at a3
        rw [hjx] at a1 a2
        exact h10 (by rw [← hgx, a1, ← a2, a3, hgq])
      · have h10 : h[x] = hq[k] := by simpa using h10
        have gd : Grow w19 (dr (dr w19 m) m2) := ((Grow.refl w19).dr m).dr m2
        obtain ⟨qa, qn, qc, eqv, hqb, z, hz, hze⟩ := (rq gd).rd (j := (k : Int)) (K := fun t => t = hq[k]) rfl hkq rfl
        rw [hze] at hz
        repeat' first
          | exact st gd (.inr h10)
          | refine ⟨_, bx gd, ?_⟩
          | refine ⟨_, qx gd, ?_⟩
          | refine ⟨qa, qn, qc, eqv, hqb, ?_⟩
          | refine ⟨_, hz, ?_⟩
          | refine And.intro ?_ ?_
    · have h9 : h[x] = 99 := by simpa using h9
      intro m m2
      have gd : Grow w19 (dr (dr w19 m) m2) := ((Grow.refl w19).dr m).dr m2
      obtain ⟨qa, qn, qc, eqv, hqb, z, hz, hze⟩ := (rq gd).rd (j := (k : Int)) (K := fun t => t = hq[k]) rfl hkq rfl
      rw [hze] at hz
      repeat' first
        | exact st gd (.inl h9)
        | refine ⟨_, bx gd, ?_⟩
        | refine ⟨_, qx gd, ?_⟩
        | refine ⟨qa, qn, qc, eqv, hqb, ?_⟩
        | refine ⟨_, hz, ?_⟩
        | refine And.intro ?_ ?_
  · have hkl : k = hp.length := by omega
    subst hkl
    refine ⟨[_, _], rfl, two (hc hf p0) (hc hf p1), (queryVars_c (sbp.gr (gw hf)) obp).mono ?_⟩
    rintro e w96 ⟨rfl, g96⟩
    refine ⟨_, rfl, fun w99 hw99 => ?_⟩
    have g99 := alloc_grow hw99
    have s99 := alloc_size hw99
    have hb99 := Box.new hw99
    refine ⟨⟨_, hb99.cell⟩, hb99.free, fun w100 hw100 => ?_⟩
    have hb100 := hb99.set hw100
    have g100 : Grow w96 w100 := g99.fr (set_fr hw100) fun i hi e => by
      have e : i = w96.heap.size := e
      omega
    intro w101 hw101
    have g101 := alloc_grow hw101
    have s101 := alloc_size hw101
    have hb101 := Box.new hw101
    refine ⟨⟨rfl, rfl⟩, ⟨_, hb101.cell⟩, hb101.free, fun w102 hw102 => ?_⟩
    have hb102 := hb101.set hw102
    have g102 : Grow w100 w102 := g101.fr (set_fr hw102) fun i hi e => by
      have e : i = w100.heap.size := e
      omega
    have g19_102 : Grow w19 w102 := (g96.trans g100).trans g102
    have hf102 := hf.trans (Fr.of_grow g19_102)
    have hs19 := hf.size
    have hs96 := g96.size
    have hs100 := g100.size
    have E : HomEnv w5 w102 g bpv bqv bp bq ⟨w.heap.size, 0, none⟩ ⟨w6.heap.size, 0, none⟩ ⟨w1.heap.size, 0, none⟩ ⟨w96.heap.size, 0, none⟩ ⟨w100.heap.size, 0, none⟩ := by
      have s10 := f10.size
      refine ⟨hc hf102 p1, hc hf102 q1, hbx hf102, g102.cell hb100.cell, hb102.cell, ?_, ?_, ?_, ?_, ?_, sbp.gr g05, sbq.gr g05, gK hf102, hg1.1⟩
      all_goals show ¬ _ = g
      all_goals dsimp only
      all_goals omega
    have hS : StH hp bp hq 0 h := by
      refine ⟨hl8, fun i hi hn => ?_, fun i hi => by omega, fun j hj => hI.val j hj hj⟩
      obtain ⟨j, hjk, hj, hjx⟩ := (hI.set i hi).1 hn
      have hm := List.getElem_mem hj
      have h1 := hhp _ hm
      have hv := hI.val j hj hjk
      rw [hjx] at hv
      have hjq : j < hq.length := by omega
      have h2 := hhq _ (List.getElem_mem hjq)
      have hgq : hq.getD j 0 = hq[j] := by simp [List.getD, hjq]
      refine ⟨?_, by rw [hv, hgq]; omega, by rw [hv, hgq]; omega⟩
      simp only [okQ, Bool.and_eq_true, List.all_eq_true] at okp
      have := okp.2 _ hm
      simp only [okH, Bool.and_eq_true, decide_eq_true_eq] at this
      rw [hjx] at this
      exact this.2
    refine ⟨_, hb102.cell, _, #[], _, rfl, by kernel_rfl, ?_⟩
    refine (try_c E okp okq hlen 8 0 h w102 (by omega) (by omega) (Fr.refl _ _) (Own.grow how g19_102) hS).mono ?_
    rintro e w104 ⟨b, h', rfl, hf104, ho104, hb104⟩
    have hag : ∀ f, AgH hp bp hq bq h f ↔ IsHom hp bp hq bq f := fun f => ⟨fun hA => hA.1, fun hF => ⟨hF, fun i hi hn => by
      obtain ⟨j, hjk, hj, hjx⟩ := (hI.set i hi).1 hn
      have a1 := hI.val j hj hjk
      have a2 := hF.head j hj
      rw [hjx] at a1 a2
      rw [a1, a2]⟩⟩
    have gE := gw (hf102.trans hf104)
    refine ⟨_, rfl, condP_i (fun hbf => ?_) fun hbt => ?_⟩
    · have hbf : b = false := by simpa using hbf
      subst hbf
      rw [if_neg (by simp)] at hb104
      exact ⟨_, none, rfl, hb104.2.congr hag, rfl, gE⟩
    · have hbt : b = true := by simpa using hbt
      subst hbt
      rw [if_pos rfl] at hb104
      exact ⟨_, hbx (hf102.trans hf104), _, some h', rfl, hb104.congr hag, ⟨Own.slI ho104, _, _, _, rfl⟩, gE⟩
end Go.Proofs.Ytleiddajojgmmaa

/- Contracts: Hom and Contained of the program; the reference's has, IsHom, possible. No condition. -/
namespace Go.Proofs.Ytleiddajojgmmaa
open Go Go.RowKit VC
set_option linter.unusedSimpArgs false
set_option linter.unusedVariables false

theorem HomV.ne {w : World} {v : Value} {o : Option (List Int)} (h : HomV w v o) {ox : Operand} {c : Value} : PBinR Try.prog .neq 22 ox (.const c) v (.slice none 0 0) o.isSome := by
  cases o with
  | none =>
    obtain rfl : v = .slice none 0 0 := h
    exact nilNe (e := 3) (by kernel_rfl)
  | some x =>
    obtain ⟨-, a, n, c', rfl⟩ := h
    exact nilNe (e := 3) (by kernel_rfl)
theorem HomV.eq {w : World} {v : Value} {o : Option (List Int)} (h : HomV w v o) {ox : Operand} {c : Value} : PBinR Try.prog .eql 22 ox (.const c) v (.slice none 0 0) o.isNone := by
  cases o with
  | none =>
    obtain rfl : v = .slice none 0 0 := h
    exact nilEq (e := 3) (by kernel_rfl)
  | some x =>
    obtain ⟨-, a, n, c', rfl⟩ := h
    exact nilEq (e := 3) (by kernel_rfl)
theorem HomV.sl {w : World} {v : Value} {o : Option (List Int)} (h : HomV w v o) : SlI w v (o.getD []) := by
  cases o with
  | none =>
    obtain rfl : v = .slice none 0 0 := h
    exact SlI.nil w
  | some x => exact h.1
/-- The documented answer of Hom. -/
def HomA (hp : List Int) (bp : List Atm) (hq : List Int) (bq : List Atm) (o : Option (List Int)) : Prop := if okPQ hp bp hq bq = true then FirstL (IsHom hp bp hq bq) o else o = none
theorem HomA.uniq {hp : List Int} {bp : List Atm} {hq : List Int} {bq : List Atm} {o o' : Option (List Int)} (h : HomA hp bp hq bq o) (h' : HomA hp bp hq bq o') : o = o' := by
  unfold HomA at h h'
  by_cases hc : okPQ hp bp hq bq = true
  · rw [if_pos hc] at h h'
    exact FirstL.uniq h h'
  · rw [if_neg hc] at h h'
    rw [h, h']
/-! ## The reference -/
end Go.Proofs.Ytleiddajojgmmaa

/- Contracts: the reference's search for the first homomorphism. No condition. -/
namespace Go.Proofs.Ytleiddajojgmmaa
open Go Go.RowKit VC
set_option linter.unusedSimpArgs false
set_option linter.unusedVariables false

/-- All of a slice, without room. -/
theorem SlI.cut {w : World} {v : Value} {xs : List Int} (h : SlI w v xs) : ∃ (a : Option Addr) (n c : Nat), v = .slice a n c ∧ ∃ l hh m : Nat, sbR none (some (.int .i64 (xs.length : Int))) (some (.int .i64 (xs.length : Int))) n c l hh m ∧
    ∃ a', (Value.slice (if m = l then a else a.map (·.add (l * 1))) (hh - l) (m - l)) = .slice a' xs.length xs.length ∧ SlI w (.slice a' xs.length xs.length) xs := by
  obtain ⟨a, c, rfl, h1, h2, h3, h4⟩ := h.ex
  refine ⟨a, _, c, rfl, 0, xs.length, xs.length, ⟨rfl, rfl, rfl, by simp, by omega, by omega, by omega⟩, a, ?_, ?_⟩
  · cases a with
    | none => simp
    | some b => simp [Addr.add]
  · refine ⟨a, xs.length, rfl, ?_, ?_, ?_, h4⟩
    · simp
    · omega
    · intro e
      have := h3 e
      omega
/-- What begins so. -/
def PreH (hp : List Int) (bp : List Atm) (hq : List Int) (bq : List Atm) (b : List Int) (g : List Int) : Prop := IsHom hp bp hq bq g ∧ g.take b.length = b
section
variable {hp hq : List Int} {bp bq : List Atm} {b g : List Int}
theorem PreH.put (hb : b.length < 8) (h : PreH hp bp hq bq b g) : PreH hp bp hq bq (b ++ [g.getD b.length 0]) g := by
  refine ⟨h.1, ?_⟩
  have hl : b.length < g.length := by rw [h.1.len]; exact hb
  rw [List.length_append, List.length_singleton, List.take_succ_eq_append_getElem hl, h.2]
  simp [List.getD, hl]
theorem PreH.get {x : Int} (hb : b.length < 8) (h : PreH hp bp hq bq (b ++ [x]) g) : PreH hp bp hq bq b g ∧ g.getD b.length 0 = x := by
  have hl : b.length < g.length := by rw [h.1.len]; exact hb
  have e := h.2
  rw [List.length_append, List.length_singleton, List.take_succ_eq_append_getElem hl] at e
  have := List.append_inj e (by simp; omega)
  refine ⟨⟨h.1, this.1⟩, ?_⟩
  have h2 : g[b.length] = x := by simpa using this.2
  rw [← h2]
  simp [List.getD, hl]
end
end Go.Proofs.Ytleiddajojgmmaa

/- Two queries made by Of, in every order; a homomorphism turns results into results. No condition. -/
namespace Go.Proofs.Ytleiddajojgmmaa
open Go Go.RowKit VC
set_option linter.unusedSimpArgs false
set_option linter.unusedVariables false

/-! ## Matches along a homomorphism -/
theorem okQ_headIn {h : List Int} {b : List Atm} (ok : okQ h b = true) : ∀ x ∈ h, (0 ≤ x ∧ x ≤ 7) ∧ (varsB b).testBit x.toNat = true := fun x hx => by
  refine ⟨okQ_head ok x hx, ?_⟩
  simp only [okQ, Bool.and_eq_true, List.all_eq_true] at ok
  have := ok.2 _ hx
  simp only [okH, Bool.and_eq_true, decide_eq_true_eq] at this
  exact this.2
end Go.Proofs.Ytleiddajojgmmaa

/- Homomorphisms composed; the identity. Of no program. No condition. -/
namespace Go.Proofs.Ytleiddajojgmmaa
open Go Go.RowKit VC
set_option linter.unusedSimpArgs false
set_option linter.unusedVariables false

theorem bit_inB {b : List Atm} {a : Atm} {x : Int} (ha : a ∈ b) (hx : x ∈ a.2) (h0 : 0 ≤ x) : (varsB b).testBit x.toNat = true := varsB_bit.2 (List.mem_flatMap.2 ⟨a, ha, by rwa [Int.toNat_of_nonneg h0]⟩)
/-- Where a first homomorphism's term goes by a second one. -/
def thn (g : List Int) (x : Int) : Int := if 0 ≤ x ∧ x < 8 then g.getD x.toNat 0 else x
theorem getD_map8 {l : List Int} {f : Int → Int} {i : Nat} (hi : i < l.length) : (l.map f).getD i 0 = f (l.getD i 0) := by
  simp [List.getD, hi]
theorem hom_comp {hp hq hr g1 g2 : List Int} {bp bq br : List Atm} (okp : okQ hp bp = true) (okq : okQ hq bq = true) (hlen : hp.length = hq.length) (h1 : IsHom hp bp hq bq g1) (h2 : IsHom hq bq hr br g2) : IsHom hp bp hr br (g1.map (thn g2)) := by
  have hT := okB_term okp
  have get : ∀ i, i < 8 → (g1.map (thn g2)).getD i 0 = thn g2 (g1.getD i 0) := fun i hi => getD_map8 (by rw [h1.len]; exact hi)
  refine ⟨by rw [List.length_map, h1.len], fun i hi => ?_, fun a ha => ?_, fun k hk => ?_⟩
  · have h3 := h1.occ i hi
    rw [get i hi]
    split
    · rename_i hb
      rw [if_pos hb] at h3
      unfold thn
      split
      · rename_i h0
        obtain ⟨a, ha, hia⟩ := List.mem_flatMap.1 (varsB_bit.1 hb)
        have h4 : g1.getD i 0 ∈ (imgH g1 a).2 := List.mem_map.2 ⟨(i : Int), hia, by rw [imgT, if_pos (by omega), Int.toNat_natCast]⟩
        have h5 := h2.occ (g1.getD i 0).toNat (by omega)
        rwa [if_pos (bit_inB (h1.atoms a ha) h4 h0.1)] at h5
      · exact h3
    · rename_i hb
      rw [if_neg hb] at h3
      rw [h3]
      rfl
  · have : imgH (g1.map (thn g2)) a = imgH g2 (imgH g1 a) := by
      unfold imgH
      simp only [List.map_map]
      congr 1
      refine List.map_congr_left fun x hx => ?_
      have ht := hT a ha x hx
      simp only [Function.comp]
      by_cases h0 : 0 ≤ x
      · have h3 := h1.occ x.toNat (by omega)
        rw [if_pos (bit_inB ha hx h0)] at h3
        rw [show imgT (g1.map (thn g2)) x = thn g2 (g1.getD x.toNat 0) by rw [imgT, if_pos h0, get _ (by omega)], show imgT g1 x = g1.getD x.toNat 0 by rw [imgT, if_pos h0]]
        unfold thn imgT
        by_cases h4 : 0 ≤ g1.getD x.toNat 0
        · rw [if_pos ⟨h4, by omega⟩, if_pos h4]
        · rw [if_neg (fun h => h4 h.1), if_neg h4]
      · unfold imgT
        rw [if_neg h0, if_neg h0, if_neg h0]
    rw [this]
    exact h2.atoms _ (h1.atoms a ha)
  · have hp1 := okQ_headIn okp _ (List.getElem_mem hk)
    have hkq : k < hq.length := by omega
    have hq1 := okQ_headIn okq _ (List.getElem_mem hkq)
    have e : hq.getD k 0 = hq[k] := by simp [List.getD, hkq]
    rw [get _ (by omega), h1.head k hk, e, thn, if_pos (by omega)]
    exact h2.head k hkq
def idH (b : List Atm) : List Int := (List.range 8).map fun i => if (varsB b).testBit i = true then (i : Int) else 99
theorem idH_get {b : List Atm} {i : Nat} (hi : i < 8) : (idH b).getD i 0 = if (varsB b).testBit i = true then (i : Int) else 99 := by
  unfold idH
  rw [List.getD, List.getElem?_map, List.getElem?_range hi]
  rfl
theorem hom_id {hp : List Int} {bp bq : List Atm} (okp : okQ hp bp = true) (hs : ∀ a ∈ bp, a ∈ bq) : IsHom hp bp hp bq (idH bp) := by
  have hT := okB_term okp
  refine ⟨by simp [idH], fun i hi => ?_, fun a ha => ?_, fun k hk => ?_⟩
  · rw [idH_get hi]
    split
    · omega
    · rfl
  · have : imgH (idH bp) a = a := by
      unfold imgH
      have : a.2.map (imgT (idH bp)) = a.2.map id := List.map_congr_left fun x hx => by
        have ht := hT a ha x hx
        unfold imgT
        split
        · rename_i h0
          rw [idH_get (by omega), if_pos (bit_inB ha hx h0)]
          simp only [id]
          omega
        · rfl
      rw [this, List.map_id]
    rw [this]
    exact hs a ha
  · have h1 := okQ_headIn okp _ (List.getElem_mem hk)
    rw [idH_get (by omega), if_pos h1.2]
    have e : hp.getD k 0 = hp[k] := by simp [List.getD, hk]
    rw [e]
    omega
end Go.Proofs.Ytleiddajojgmmaa
