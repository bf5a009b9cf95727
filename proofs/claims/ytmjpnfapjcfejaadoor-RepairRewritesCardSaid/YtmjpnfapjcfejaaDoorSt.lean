/- Contracts: atoms but one (slices.Concat), the first atom that nothing attacks, by the program. No condition. -/
import Derived.Test.YtmjpnfapjcfejaaDoorSn
import Derived.Test.YtmjpnfapjcfejaaDoorRi
import Derived.Test.YtmjpnfapjcfejaaDoorSh
import Derived.Test.YtmjpnfapjcfejaaDoorSi
import Derived.Test.YtmjpnfapjcfejaaDoorMm
namespace Go.Proofs.YtmjpnfapjcfejaaDoor
open Go Go.RowKit VC
set_option linter.unusedSimpArgs false
set_option linter.unusedVariables false

/-! ## A slice cut, its capacity too -/
theorem SlX.upto3 {α : Type} {k : Nat} {rep : World → List Value → α → Prop} {w : World} {v : Value} {xs : List α} (h : SlX k rep w v xs) {i : Nat} {ik jk : IntKind} {z z' : Int} (hz : z = (i : Int)) (hz' : z' = (i : Int)) (hi : i ≤ xs.length) {K : Value → Prop} (hk : ∀ v', SlX k rep w v' (xs.take i) → K v') :
    ∃ (a : Option Addr) (n c : Nat), v = .slice a n c ∧ ∃ l hh m : Nat, sbR none (some (.int ik z)) (some (.int jk z')) n c l hh m ∧ K (.slice (if m = l then a else a.map (·.add (l * k))) (hh - l) (m - l)) := by
  subst hz
  subst hz'
  obtain ⟨a, c, rfl, h1, h2, h3, h4⟩ := h.ex
  have hl : (xs.take i).length = i := by simp; omega
  refine ⟨a, _, c, rfl, 0, i, i, ⟨rfl, rfl, rfl, by simp, by omega, by omega, by first | omega | (dsimp only; omega)⟩, hk _ ⟨(if i = 0 then a else a.map (·.add (0 * k))), i, by rw [hl]; rfl, by omega, by omega, fun hn => ?_, fun j hj => ?_⟩⟩
  · by_cases hi0 : i = 0
    · exact hi0
    · rw [if_neg hi0] at hn
      have : a = none := by cases a <;> simp at hn ⊢
      have := h3 this
      omega
  · obtain ⟨b, cs, e1, e2, e3, e4⟩ := h4 j (by omega)
    refine ⟨b, cs, ?_, e2, e3, by rw [List.getElem_take]; exact e4⟩
    rw [if_neg (by omega), e1]
    simp [Addr.add]
/-- An atom of terms that lies in older memory. -/
theorem elx_oldT {T : Nat → Prop} {w w0 : World} {a : TAtm} {u out : Value} (hu : SlP w0 u a.2) (g : Grow w0 w) (hT : ∀ b, T b → w0.heap.size ≤ b) (hout : ∀ b, out.ownBlock = some b → w0.heap.size ≤ b) : ElX T 2 repT out w ([.int .i64 a.1, u], a) := by
  refine ⟨rfl, ?_, fun w2 hf => ⟨u, rfl, SlR.grow hu (g.fr hf fun i hi e => ?_)⟩⟩
  · intro y hy
    simp at hy
    rcases hy with rfl | rfl
    · rfl
    · exact (SlR.one hu).2
  · rcases e with e | e
    · have := hT i e; omega
    · have := hout i e.symm; omega
/-! ## slices.Grow, slices.Concat -/
theorem growT_c {w : World} {n : Nat} (hn : n ≤ 10) : Calls Tryd.prog 88 #[.slice none 0 0, .int .i64 (n : Int)] w fun e w' => ∃ v, e = .returned v ∧ OwnX (fun b => w.heap.size ≤ b) 2 repT w' w.heap.size 110 v [] ∧ Grow w w' := by
  by_cases h0 : n = 0
  · subst h0
    refine (Tryd.slices_Grow_same none 0 0 0 w (by omega) (by omega) (by omega) (by omega)).mono ?_
    rintro e w' ⟨rfl, rfl⟩
    exact ⟨_, rfl, OwnX.nil _ _ _, Grow.refl _⟩
  · obtain ⟨i, hi, hz, hsize, hby⟩ := el_ta.info
    refine (Tryd.slices_Grow_new i _ hi hz (by omega) none 0 0 n [] w (by omega) (by omega) (by rw [hby]; omega) (by omega) (by simp) (fun _ => rfl) (fun a h => by cases h)).mono ?_
    rintro e w' ⟨rfl, rfl⟩
    have h1 := grownCap_ge w (0 + n) 0 110
    have h2 := grownCap_le_maxLen w (0 + n) 0 110 (by unfold maxLen; omega)
    obtain ⟨cur, ecur⟩ : ∃ cur : Array Value, cur = (([] : List Value).toArray ++ Builtin.zeroCells (Value.agg #[.int .i64 0, .slice none 0 0]).cells (0 + n - 0) ++ Builtin.zeroCells (Value.agg #[.int .i64 0, .slice none 0 0]).cells (grownCap w (0 + n) 0 110 - (0 + n))) := ⟨_, rfl⟩
    rw [← ecur]
    have hsz : cur.size = grownCap w (0 + n) 0 110 * 2 := by
      rw [ecur, Array.size_append, Array.size_append, size_zeroCells, size_zeroCells]
      show 0 + (0 + n - 0) * 2 + (grownCap w (0 + n) 0 110 - (0 + n)) * 2 = grownCap w (0 + n) 0 110 * 2
      omega
    have hg : Grow w (w.drew.alloc (.cells cur 110)) := (Below.drew (Grow.refl w)).alloc (Nat.le_refl _) _
    have hh : (w.drew.alloc (.cells cur 110)).heap[w.heap.size]? = some (.cells cur 110 (0, 0)) := heap_alloc_new w.drew _
    exact ⟨_, rfl, ⟨[], rfl, (fun p hp => by cases hp), rfl, .inr ⟨w.heap.size, grownCap w (0 + n) 0 110, cur, rfl, Nat.le_refl _, hh, by simp, h2, hsz, by simp⟩⟩, hg⟩
theorem concatT_c {w : World} {v s1 s2 : Value} {l1 l2 : List TAtm} (hv : SlC w v 2 [s1, s2]) (h1 : SlTA w s1 l1) (h2 : SlTA w s2 l2) (hl : l1.length + l2.length ≤ 10) :
    Calls Tryd.prog 63 #[v] w fun e w' => ∃ u, e = .returned u ∧ SlTA w' u (l1 ++ l2) ∧ Grow w w' := by
  obtain ⟨a, c, rfl, v1, v2, v3, v4⟩ := hv.ex
  obtain ⟨a, rfl⟩ : ∃ b, a = some b := by
    obtain ⟨b, e, _⟩ := v4 0 s1 rfl
    exact ⟨b, e⟩
  have rd : ∀ {w'}, Grow w w' → ∀ {i : Nat} {u : Value}, [s1, s2][i]? = some u → w'.cell? (a.add (Int.toNat (i : Int) * 1)) = some u := fun {w'} g {i u} hi => by
    obtain ⟨b, e, hc⟩ := v4 i u hi
    cases e
    rw [Int.toNat_natCast, Nat.mul_one]
    exact g.cell hc
  refine f63_calls _ ⟨_, _, _, rfl, ?_⟩
  refine ⟨fun size t w' => ∃ k : Nat, t = k ∧ k ≤ 2 ∧ size = (if k = 0 then 0 else if k = 1 then (l1.length : Int) else (l1.length : Int) + (l2.length : Int)) ∧ w' = w, fun _ t _ => 2 - t.toNat, ⟨0, rfl, by omega, rfl, rfl⟩, ?_⟩
  rintro - size t w9 ⟨k, rfl, hk, hsize, rfl⟩
  refine condD (fun hlt => ?_) fun hge => ?_
  · have hk01 : k = 0 ∨ k = 1 := by omega
    rcases hk01 with rfl | rfl
    · rw [if_pos rfl] at hsize
      subst hsize
      refine ⟨a, _, _, rfl, by omega, s1, rd (Grow.refl _) (i := 0) rfl, SlX.ln h1 ⟨by unfold inR; omega, cF (decide_eq_false (by omega)) ⟨by unfold inR; omega, ⟨1, by omega, by omega, ?_, rfl⟩, by first | omega | (dsimp only; omega)⟩⟩⟩
      rw [if_neg (by omega), if_pos rfl]
      omega
    · rw [if_neg (by omega), if_pos rfl] at hsize
      subst hsize
      refine ⟨a, _, _, rfl, by omega, s2, rd (Grow.refl _) (i := 1) rfl, SlX.ln h2 ⟨by unfold inR; omega, cF (decide_eq_false (by omega)) ⟨by unfold inR; omega, ⟨2, by omega, by omega, ?_, rfl⟩, by first | omega | (dsimp only; omega)⟩⟩⟩
      rw [if_neg (by omega), if_neg (by omega)]
  · have hk2 : k = 2 := by omega
    subst hk2
    rw [if_neg (by omega), if_neg (by omega)] at hsize
    have hsize : size = ((l1.length + l2.length : Nat) : Int) := by omega
    subst hsize
    refine (growT_c (n := l1.length + l2.length) (by omega)).mono ?_
    rintro e w17 ⟨v0, rfl, ho0, g17⟩
    refine ⟨v0, rfl, some a, _, _, rfl, ?_⟩
    refine ⟨fun nv t w' => ∃ k : Nat, t = k ∧ k ≤ 2 ∧ OwnX (fun b => w9.heap.size ≤ b) 2 repT w' w9.heap.size 110 nv (if k = 0 then [] else if k = 1 then l1 else l1 ++ l2) ∧ Grow w9 w', fun _ t _ => 2 - t.toNat, ⟨0, rfl, by omega, ho0, g17⟩, ?_⟩
    rintro - nv t w28 ⟨k, rfl, hk, hown, g28⟩
    have app : ∀ {s : Value} {l cur : List TAtm} {K : Value → World → Prop}, SlTA w9 s l → l.length + cur.length ≤ 10 → OwnX (fun b => w9.heap.size ≤ b) 2 repT w28 w9.heap.size 110 nv cur → (∀ v' w', OwnX (fun b => w9.heap.size ≤ b) 2 repT w' w9.heap.size 110 v' (cur ++ l) → Grow w9 w' → K v' w') → PApp Tryd.prog 67 67 nv s w28 K := fun {s l cur K} hs hlen hc hk => by
      obtain ⟨ps, rfl, hps, hcells⟩ := SlX.cells (by omega) hs
      refine pappX el_ta (by omega) (qs := ps) hc (SlC.grow hcells g28) (fun q hq => ?_) g28.size (by simp at hlen; omega) (by omega) fun v' w' ho2 hf2 _ _ => hk v' w' ho2 (g28.fr hf2 fun i hi e => by have := (hc.lt e.symm).1; omega)
      obtain ⟨hq2, u, e, hu⟩ := hps q hq
      have := elx_oldT (T := fun b => w9.heap.size ≤ b) (out := nv) hu g28 (fun b hb => hb) fun b hb => (hc.lt hb).1
      rw [← e] at this
      exact this
    refine condD (fun hlt => ?_) fun hge => ?_
    · have hk01 : k = 0 ∨ k = 1 := by omega
      rcases hk01 with rfl | rfl
      · refine ⟨a, _, _, rfl, by omega, s1, rd g28 (i := 0) rfl, app h1 (by simp; omega) hown fun v' w' ho g => ⟨by unfold inR; omega, ⟨1, by omega, by omega, ho, g⟩, by first | omega | (dsimp only; omega)⟩⟩
      · refine ⟨a, _, _, rfl, by omega, s2, rd g28 (i := 1) rfl, app h2 (by rw [if_neg (by omega), if_pos rfl]; omega) hown fun v' w' ho g => ⟨by unfold inR; omega, ⟨2, by omega, by omega, ho, g⟩, by first | omega | (dsimp only; omega)⟩⟩
    · have hk2 : k = 2 := by omega
      subst hk2
      exact ⟨_, rfl, hown.slX, g28⟩
/-! ## The first zero of a mask -/
def nU (hit : Nat) : Int := IntKind.wrap .u64 (iXor .i64 (if IntKind.signed .i64 then -1 else IntKind.max .i64) (hit : Int))
def tzIx (x : Int) : Int := iShr .u64 (IntKind.wrap .u64 ((iAnd .u64 x (IntKind.wrap .u64 (0 - x))) * 285870213051353865)) 58
def fzOk (hit k : Nat) : Bool := hit.testBit k || !((List.range k).all fun j => hit.testBit j) || (!decide (nU hit = 0) && decide (0 ≤ tzIx (nU hit)) && decide (tzIx (nU hit) < 64) && tab64.getD (tzIx (nU hit)).toNat 0 == k)
theorem fzAll : ∀ hit, hit < 32 → ∀ k, k < 6 → fzOk hit k = true := by decide +kernel
theorem fz_c {hit k : Nat} (h32 : hit < 32) (hk : k < 6) (h0 : hit.testBit k = false) (h1 : ∀ j, j < k → hit.testBit j = true) {w : World} (hT : Tab w) : Calls Tryd.prog 62 #[.int .u64 (nU hit)] w (Ret w (.int .i64 (k : Int))) := by
  have hok := fzAll hit h32 k hk
  have hall : ((List.range k).all fun j => hit.testBit j) = true := List.all_eq_true.2 fun j hj => h1 j (List.mem_range.1 hj)
  rw [fzOk, h0, hall] at hok
  simp only [Bool.not_true, Bool.or_false, Bool.false_or, Bool.and_eq_true, Bool.not_eq_true', decide_eq_false_iff_not, decide_eq_true_eq, beq_iff_eq] at hok
  obtain ⟨⟨⟨k0, k1⟩, k2⟩, k3⟩ := hok
  refine f62_calls _ ?_
  have main : Calls Tryd.prog 87 #[.int .u64 (nU hit)] w (Ret w (.int .i64 (k : Int))) := by
    refine f87_calls _ ?_
    refine condD (fun e => absurd e k0) fun _ => ⟨by decide, ⟨k1, k2⟩, (k : Int), ?_, ?_⟩
    · have hlt : (tzIx (nU hit)).toNat < 64 := by clear k3; generalize tzIx (nU hit) = z at *; omega
      have hc := hT (tzIx (nU hit)).toNat hlt
      rw [k3, ← Nat.mul_one (tzIx (nU hit)).toNat] at hc
      exact hc
    · refine ⟨?_, Grow.refl w⟩
      rw [wrap_nat (by omega)]
  refine main.mono ?_
  rintro e w' ⟨rfl, hg⟩
  exact ⟨_, rfl, rfl, hg⟩
end Go.Proofs.YtmjpnfapjcfejaaDoor

/- Contract: the rule of Rewrite, by the program. No condition. -/
namespace Go.Proofs.YtmjpnfapjcfejaaDoor
open Go Go.RowKit VC
set_option linter.unusedSimpArgs false
set_option linter.unusedVariables false

/-! ## The rule, one fact after the other -/
section
variable (kl : Int → Nat) (L : List Atm) (n : Nat) (a0 : Atm) (rest : List Atm) (m : List Int)
/-- A fact of the block agrees, and the other atoms are certain with its numbers. -/
def oneB (g : Atm) : Bool := match fitR a0.2 g.2 m with | none => false | some m' => rewR kl L n rest m'
/-- The key of a fact agrees with the atom's. -/
def keyOk (f : Atm) : Bool := decide (f.1 = a0.1) && decide (f.2.length = a0.2.length) && (fitR (a0.2.take (kl a0.1)) f.2 m).isSome
/-- A fact by whose block the atom is answered. -/
def gdB (f : Atm) : Bool := keyOk kl a0 m f && L.all fun g => !decide (kF kl g = kF kl f) || oneB kl L n a0 rest m g
variable {kl L n a0 rest m}
theorem rewR_succ {atoms : List Atm} {i : Nat} (hi : i < atoms.length) (e : freeA kl atoms m = i) : rewR kl L (n + 1) atoms m = L.any (gdB kl L n atoms[i] (atoms.eraseIdx i) m) := by
  rw [rewR, e, fa_get hi]
  rfl
theorem fitR_cut : ∀ {xs ys m : List Int} {k : Nat}, xs.length ≤ k → fitR xs ys m = fitR xs (ys.take k) m := by
  intro xs ys m k hk
  unfold fitR
  congr 1
  induction xs generalizing ys k with
  | nil => simp
  | cons x xs ih =>
    cases ys with
    | nil => simp
    | cons y ys =>
      cases k with
      | zero => simp at hk
      | succ k =>
        rw [List.take_succ_cons, List.zip_cons_cons, List.zip_cons_cons, ← ih (by simpa using hk)]
theorem keyOk_blk {f f0 : Atm} (he : kF kl f = kF kl f0) (hl : f0.2.length = f.2.length) (h : keyOk kl a0 m f = true) : keyOk kl a0 m f0 = true := by
  unfold keyOk at h ⊢
  simp only [Bool.and_eq_true, decide_eq_true_eq] at h ⊢
  obtain ⟨⟨h1, h2⟩, h3⟩ := h
  have hr := kF_rel he
  have ht : f.2.take (kl a0.1) = f0.2.take (kl a0.1) := by
    have := (Prod.mk.inj he).2
    rw [← hr, h1] at this
    exact this
  refine ⟨⟨by rw [← hr]; exact h1, by first | omega | (dsimp only; omega)⟩, ?_⟩
  have hlen : (a0.2.take (kl a0.1)).length ≤ kl a0.1 := by rw [List.length_take]; omega
  rw [fitR_cut hlen] at h3
  rw [fitR_cut hlen, ← ht]
  exact h3
theorem gd_blk {j : Nat} (hlen : ∀ f ∈ L, ∀ g ∈ L, f.1 = g.1 → f.2.length = g.2.length) (hj : j < L.length) (h : gdB kl L n a0 rest m (fa L j) = true) : gdB kl L n a0 rest m (fa L (blkN kl L j)) = true := by
  obtain ⟨-, he, -⟩ := blk_spec (kl := kl) hj
  unfold gdB at h ⊢
  rw [Bool.and_eq_true] at h ⊢
  refine ⟨keyOk_blk he.symm (hlen _ (fa_mem (blk_lt hj)) _ (fa_mem hj) (kF_rel he)) h.1, ?_⟩
  rw [he]
  exact h.2
theorem any_none (hlen : ∀ f ∈ L, ∀ g ∈ L, f.1 = g.1 → f.2.length = g.2.length) (h : ∀ j, j < L.length → blkN kl L j = j → gdB kl L n a0 rest m (fa L j) = false) : L.any (gdB kl L n a0 rest m) = false := by
  rw [← Bool.not_eq_true, List.any_eq_true]
  rintro ⟨f, hf, hg⟩
  obtain ⟨j, hj, rfl⟩ := List.getElem_of_mem hf
  rw [← fa_get hj] at hg
  have h1 := gd_blk hlen hj hg
  rw [h _ (blk_lt hj) (blk_blk hj)] at h1
  cases h1
end
theorem erase_cut {α : Type} (l : List α) (i : Nat) : l.eraseIdx i = l.take i ++ l.drop (i + 1) := List.eraseIdx_eq_take_drop_succ l i
theorem erase_map {α β : Type} (f : α → β) (l : List α) (i : Nat) : (l.map f).eraseIdx i = (l.eraseIdx i).map f := by
  rw [erase_cut, erase_cut, List.map_append, List.map_take, List.map_drop]
/-! ## What a number of the state must be -/
/-- Numbers from 1 on, or 0. -/
theorem posM_fit {xs ys m m' : List Int} (hx : ∀ x ∈ xs, x ≤ 7) (hy : ∀ y ∈ ys, 1 ≤ y) (h8 : m.length = 8) (hp : PosM m) (hl : xs.length ≤ ys.length) (h : fitR xs ys m = some m') : PosM m' := by
  obtain ⟨a, b, c, d⟩ := fitR_sound hx hy h8 hl h
  intro x
  by_cases h1 : mg m' x = 0
  · rw [h1]; exact Int.le_refl _
  · rcases (d x).1 h1 with h2 | h2
    · rw [b x h2]; exact hp x
    · obtain ⟨k, hk, e⟩ := List.getElem_of_mem h2
      have hky : k < ys.length := by omega
      have h3 : (xs.map (tV (mg m')))[k]? = (ys.take xs.length)[k]? := by rw [c]
      rw [List.getElem?_map, List.getElem?_eq_getElem hk, List.getElem?_take_of_lt hk, List.getElem?_eq_getElem hky, e] at h3
      have h3 : tV (mg m') ((x : Nat) : Int) = ys[k] := by simpa using h3
      rw [tV_nat] at h3
      rw [h3]
      have := hy _ (List.getElem_mem hky)
      omega
theorem certR_c {s : List Int} {L : List Atm} (hS : okS s = true) (hR : okR s L = true) : ∀ (n : Nat) (atoms : List Atm) (m : List Int) (w : World) (sv fv lv : Value), atoms.length = n → SlI w sv s → SlA w fv L → SlTA w lv (atoms.map (tsub m)) → Tab w → (∀ a ∈ atoms, okA a = true) → keyB s atoms = true → PlainA atoms → atoms.Nodup → atoms.length ≤ 5 → m.length = 8 → PosM m → Acy (klS s) atoms (domM m) →
    Calls Tryd.prog 30 #[.agg #[sv, fv], lv] w (Ret w (.bool (rewR (klS s) L n atoms m))) := by
  have hF := okR_all hR
  obtain ⟨-, h12, -, hnd, hlen⟩ := okR_out hR
  have hFp : ∀ f ∈ L, ∀ y ∈ f.2, 1 ≤ y := fun f hf y hy => (okF_iff.1 (hF f hf)).2.2.2.2 y hy |>.1
  intro n
  induction n with
  | zero =>
    intro atoms m w sv fv lv hn hs hl sl hT hA hK hpl hndA h5 h8 hp hac
    have hl0 : (atoms.map (tsub m)).length = 0 := by rw [List.length_map]; exact hn
    refine f30_calls _ _ ⟨_, rfl, fun w1 hw1 => SlX.ln sl (cT (decide_eq_true (by rw [hl0]; rfl)) ⟨rfl, alloc_grow hw1⟩)⟩
  | succ n ih =>
    intro atoms m w sv fv lv hn hs hl sl hT hA hK hpl hndA h5 h8 hp hac
    have hlm : (atoms.map (tsub m)).length = n + 1 := by rw [List.length_map]; exact hn
    have hA3 : ∀ a ∈ atoms, a.2.length ≤ 3 := fun a ha => (okA_iff.1 (hA a ha)).2.2.2.1
    refine f30_calls _ _ ⟨_, rfl, fun w1 hw1 => SlX.ln sl (cF (decide_eq_false (by rw [hlm]; omega)) fun d => ?_)⟩
    have g1 := alloc_grow hw1
    have gd : Grow w1 (dr w1 d.1) := (Grow.refl w1).dr d.1
    have g0d := g1.trans gd
    have hB1 := RecV.new hw1
    refine ⟨_, (hB1.grow gd).cell (j := 0) rfl, (query_c (sl.gr g0d) (fun a ha => ?_) (by rw [hlm]; omega)).mono ?_⟩
    · obtain ⟨b, hb, rfl⟩ := List.mem_map.1 ha
      simpa [tsub] using hA3 b hb
    rintro e w8 ⟨bv, rfl, hbv, g8⟩
    have g08 := g0d.trans g8
    refine ⟨_, rfl, g8, (attacks_c (hs.grow g08) hbv hS (okA_q hp hA) (by rw [List.length_map, hlm]; omega) (keyB_q hK)).mono ?_⟩
    rw [varsOf_q h8 hp, keysOf_q h8 hp]
    rintro e w11 ⟨av, rfl, hav, g11⟩
    have g011 := g08.trans g11
    have g111 := (gd.trans g8).trans g11
    obtain ⟨V, eV⟩ : ∃ V, V = atoms.map (VM m) := ⟨_, rfl⟩
    obtain ⟨K, eK⟩ : ∃ K, K = atoms.map (KM (klS s) m) := ⟨_, rfl⟩
    rw [← eV, ← eK] at hav
    have hVl : V.length = atoms.length := by rw [eV, List.length_map]
    have hat : SlT w11 av (attR V K) := Own.slR hav
    refine ⟨_, rfl, g11, SlR.ln hat ?_⟩
    have hale : (attR V K).length ≤ 25 := by
      have h1 := atF_le V K V.length
      have h2 : V.length * V.length ≤ 5 * 5 := Nat.mul_le_mul (by omega) (by omega)
      unfold attR
      omega
    have hlt32 : ∀ k, hitP ((attR V K).take k) < 32 := fun k => by
      have h1 := hitR_lt (V := V) (K := K) k
      have h2 : 2 ^ V.length ≤ 2 ^ 5 := Nat.pow_le_pow_right (by omega) (by omega)
      omega
    refine ⟨fun hit t w' => ∃ k : Nat, t = k ∧ k ≤ (attR V K).length ∧ hit = (hitP ((attR V K).take k) : Nat) ∧ Grow w11 w', fun _ t _ => (attR V K).length - t.toNat, ⟨0, rfl, by omega, rfl, Grow.refl _⟩, ?_⟩
    rintro - hit t w22 ⟨k, rfl, hk, rfl, g22⟩
    refine condD (fun hlt => ?_) fun hge => ?_
    · have hkl : k < (attR V K).length := by omega
      obtain ⟨f, g, hf, hg, ha, e⟩ := mem_attR.1 (List.getElem_mem hkl)
      refine locF opF_len opF_one hat g22 rfl hkl rfl fun w28 g28 s28 hr => ⟨by omega, (g : Int), hr.cell (j := _) (by rw [e]; rfl), by omega, by unfold inR; omega, ⟨k + 1, by omega, by omega, ?_, g22.trans g28⟩, by first | omega | (dsimp only; omega)⟩
      have hlt := hlt32 k
      have hg5 : g < 5 := by omega
      have hpw : 2 ^ g < 2 ^ 5 := Nat.pow_lt_pow_right (by omega) hg5
      rw [List.take_succ_eq_append_getElem hkl, hitP_app, e, iShl_one (by omega), iOr_nat (by omega) (by omega)]
      rfl
    -- the first atom that nothing attacks
    have hkn : k = (attR V K).length := by omega
    rw [hkn, List.take_length]
    obtain ⟨hi, -, hno, hall⟩ := freeA_spec (kl := klS s) h8 hA hpl hndA hac (fun e => by subst e; simp at hn)
    rw [← eV, ← eK] at hno hall
    obtain ⟨i, ei⟩ : ∃ i, i = freeA (klS s) atoms m := ⟨_, rfl⟩
    rw [← ei] at hi hno hall
    rw [rewR_succ hi ei.symm]
    have hiV : i < V.length := by omega
    have hT22 := hT.grow (g011.trans g22)
    have hb0 : (hitP (attR V K)).testBit i = false := by
      rw [← Bool.not_eq_true, hitR_bit hiV]
      rintro ⟨f, hf, ha⟩
      rw [hno f (by omega)] at ha
      cases ha
    have hb1 : ∀ j, j < i → (hitP (attR V K)).testBit j = true := fun j hj => by
      rw [hitR_bit (by omega)]
      obtain ⟨f, hf, ha⟩ := hall j hj
      exact ⟨f, by omega, ha⟩
    have h32 := hlt32 (attR V K).length
    rw [List.take_length] at h32
    refine (fz_c h32 (by omega) hb0 hb1 hT22).mono ?_
    rintro e w31 ⟨rfl, g31⟩
    have g031 := (g011.trans g22).trans g31
    have g131 := (g111.trans g22).trans g31
    have hil : i < (atoms.map (tsub m)).length := by omega
    have ei2 : (atoms.map (tsub m))[i] = tsub m atoms[i] := List.getElem_map ..
    refine ⟨_, rfl, locT sl g031 rfl hil rfl fun w39 u g39 s39 hu hc d2 => ?_⟩
    rw [ei2] at hu hc
    obtain ⟨a0, ea0⟩ : ∃ a0, a0 = atoms[i] := ⟨_, rfl⟩
    rw [← ea0] at hu hc ⊢
    have hu : SlP w u (a0.2.map (tmM m)) := hu
    have hc : RecV w39 w31.heap.size [.int .i64 a0.1, u] := hc
    have gd2 : Grow w39 (dr w39 d2.1) := (Grow.refl w39).dr d2.1
    have g039 := (g031.trans g39).trans gd2
    obtain ⟨pa, pn, pc, pe, pl, ph, pm, pb, hs1⟩ := SlX.upto3 sl (ik := .i64) (jk := .i64) (z := (i : Int)) (z' := (i : Int)) (K := fun x => SlTA w x ((atoms.map (tsub m)).take i)) rfl rfl (by omega : i ≤ (atoms.map (tsub m)).length) fun v' h => h
    obtain ⟨qa, qn, qc, qe, ql, qh, qm, qb, hs2⟩ := SlX.from_ sl (i := i + 1) (ik := .i64) (z := (i : Int) + 1) (K := fun x => SlTA w x ((atoms.map (tsub m)).drop (i + 1))) (by omega) (by omega) fun v' h => h
    refine ⟨pa, pn, pc, pe, pl, ph, pm, pb, by unfold inR; omega, qa, qn, qc, qe, ql, qh, qm, qb, hs1.one, hs2.one, fun w54 hw54 => ?_⟩
    have g54 := alloc_grow hw54
    have g054 := g039.trans g54
    have hlit := Own.lit (B := (dr w39 d2.1).heap.size) (n := 2) (sz := 1) hw54 (Nat.le_refl _) (by omega) (by simp)
    refine (concatT_c (l1 := (atoms.map (tsub m)).take i) (l2 := (atoms.map (tsub m)).drop (i + 1)) hlit.slC (hs1.gr g054) (hs2.gr g054) (by simp; omega)).mono ?_
    rw [← erase_cut, erase_map]
    rintro e w55 ⟨ov, rfl, hov, g55⟩
    have g055 := g054.trans g55
    have g155 := ((((g131.trans g39).trans gd2).trans g54).trans g55)
    have g3955 := (gd2.trans g54).trans g55
    have hB55 := hB1.grow g155
    have hc55 := hc.grow g3955
    obtain ⟨rest, erest⟩ : ∃ rest, rest = atoms.eraseIdx i := ⟨_, rfl⟩
    rw [← erest] at hov ⊢
    have hrm : ∀ a, a ∈ rest → a ∈ atoms := fun a ha => List.mem_of_mem_eraseIdx (erest ▸ ha)
    have hrl : rest.length = n := by rw [erest, List.length_eraseIdx, if_pos hi]; omega
    have ha0 : a0 ∈ atoms := ea0 ▸ List.getElem_mem hi
    have oA0 := okA_iff.1 (hA a0 ha0)
    have hk0 : klS s a0.1 ≤ a0.2.length := of_decide_eq_true (List.all_eq_true.1 hK a0 ha0)
    obtain ⟨hsi, hse, -⟩ := okS_get hS oA0.1 oA0.2.1
    refine ⟨_, rfl, g55, _, hB55.cell (j := 1) rfl, SlX.ln (hl.gr g055) ?_⟩
    refine ⟨fun t w' => ∃ k : Nat, t = k ∧ k ≤ L.length ∧ (∀ j, j < k → blkN (klS s) L j = j → gdB (klS s) L n a0 rest m (fa L j) = false) ∧ Grow w55 w', fun t _ => L.length - t.toNat, ⟨0, rfl, by omega, fun j hj => by omega, Grow.refl _⟩, ?_⟩
    rintro - t w66 ⟨k, rfl, hk, hbad, g66⟩
    have g066 := g055.trans g66
    refine condD (fun hlt => ?_) fun hge => ?_
    rotate_left
    · have hkn : k = L.length := by omega
      subst hkn
      exact ⟨by rw [any_none hlen hbad], g066⟩
    have hkl : k < L.length := by omega
    have hfa : fa L k = L[k] := fa_get hkl
    refine locR hl g066 rfl hkl rfl fun w72 fu g72 s72 hfu hfc => ?_
    have g072 := g066.trans g72
    have g5572 := g66.trans g72
    have next : ∀ {w'}, Grow w72 w' → (blkN (klS s) L k = k → gdB (klS s) L n a0 rest m (fa L k) = false) → inR ((k : Int) + 1) ∧ ((∃ k' : Nat, (k : Int) + 1 = k' ∧ k' ≤ L.length ∧ (∀ j, j < k' → blkN (klS s) L j = j → gdB (klS s) L n a0 rest m (fa L j) = false) ∧ Grow w55 w') ∧ L.length - Int.toNat ((k : Int) + 1) < L.length - Int.toNat (k : Int)) := fun g h =>
      ⟨by unfold inR; omega, ⟨k + 1, by omega, by omega, fun j hj hb => by
        by_cases e : j = k
        · subst e; exact h hb
        · exact hbad j (by omega) hb, g5572.trans g⟩, by first | omega | (dsimp only; omega)⟩
    have noKey : keyOk (klS s) a0 m L[k] = false → (blkN (klS s) L k = k → gdB (klS s) L n a0 rest m (fa L k) = false) := fun h _ => by
      rw [hfa, gdB, h, Bool.false_and]
    refine ⟨_, hfc.cell (j := 0) rfl, _, (hc55.grow g5572).cell (j := 0) rfl, condP_i (fun hne => next (Grow.refl _) (noKey ?_)) fun heq => ?_⟩
    · have hne : L[k].1 ≠ a0.1 := by simpa using hne
      rw [keyOk, decide_eq_false hne]; rfl
    have heq : L[k].1 = a0.1 := by simpa using heq
    refine ⟨[_, _], rfl, (hB55.grow g5572).all, (block_c (hs.grow g072) (hl.gr g072) hR hkl).mono ?_⟩
    rintro e w77 ⟨rfl, g77⟩
    have g077 := g072.trans g77
    have g5577 := g5572.trans g77
    refine ⟨_, rfl, condP_i (fun hne => next g77 fun hb => absurd hb ?_) fun hb => ?_⟩
    · have hne : (blkN (klS s) L k : Int) ≠ (k : Int) := by simpa using hne
      omega
    have hb : blkN (klS s) L k = k := by
      have hb : (blkN (klS s) L k : Int) = (k : Int) := by simpa using hb
      omega
    intro d3
    have gd3 : Grow w77 (dr w77 d3.1) := (Grow.refl w77).dr d3.1
    have g55d := g5577.trans gd3
    have g0d3 := g077.trans gd3
    have hcd := hc55.grow g55d
    refine ⟨[_, _], rfl, hcd.all, [_, _], rfl, (hfc.grow (g77.trans gd3)).all, _, (hB55.grow g55d).cell (j := 0) rfl, _, hcd.cell (j := 0) rfl, (hs.grow g0d3).rd (by omega) hsi ⟨_, hcd.cell (j := 1) rfl, SlR.ln hu ?_⟩⟩
    rw [List.length_map, hse, if_neg (by omega)]
    refine (agrees_c (SlR.grow hu g0d3) (hfu.grow g0d3) oA0.2.2.2.2 (hFp _ (List.getElem_mem hkl)) h8 hp hk0).mono ?_
    rintro e w93 ⟨g93, hres⟩
    have g7293 := (g77.trans gd3).trans g93
    have g5593 := g55d.trans g93
    have g093 := g0d3.trans g93
    cases ho : (if a0.2.length = L[k].2.length then fitR (a0.2.take (klS s a0.1)) L[k].2 m else none) with
    | none =>
      rw [ho] at hres
      obtain ⟨mv, rfl⟩ := hres
      refine ⟨_, _, rfl, g93, cT rfl (next g7293 (noKey ?_))⟩
      unfold keyOk
      split at ho
      · rw [ho]; simp
      · rename_i hne
        have : decide (L[k].2.length = a0.2.length) = false := decide_eq_false fun e => hne e.symm
        rw [this]; simp
    | some mk =>
      rw [ho] at hres
      obtain ⟨mb, kv, rfl, -, -⟩ := hres
      have hkey : keyOk (klS s) a0 m L[k] = true := by
        unfold keyOk
        split at ho
        · rename_i he
          rw [ho, decide_eq_true heq, decide_eq_true he.symm]; rfl
        · cases ho
      refine ⟨_, _, rfl, g93, cF rfl ⟨_, (hB55.grow g5593).cell (j := 1) rfl, SlX.ln (hl.gr g093) ?_⟩⟩
      refine ⟨fun whole t w' => ∃ j : Nat, t = j ∧ j ≤ L.length ∧ whole = (L.take j).all (fun g => !decide (kF (klS s) g = kF (klS s) L[k]) || oneB (klS s) L n a0 rest m g) ∧ Grow w93 w', fun _ t _ => L.length - t.toNat, ⟨0, rfl, by omega, rfl, Grow.refl _⟩, ?_⟩
      rintro - whole t w106 ⟨j, rfl, hj, hwhole, g106⟩
      have g0106 := g093.trans g106
      have g55106 := g5593.trans g106
      refine condD (fun hlt2 => ?_) fun hge2 => ?_
      · have hjl : j < L.length := by omega
        refine locR hl g0106 rfl hjl rfl fun w112 gu g112 s112 hgu hgc => ?_
        have g0112 := g0106.trans g112
        have g55112 := g55106.trans g112
        have hstep : (L.take (j + 1)).all (fun g => !decide (kF (klS s) g = kF (klS s) L[k]) || oneB (klS s) L n a0 rest m g) = (whole && (!decide (kF (klS s) L[j] = kF (klS s) L[k]) || oneB (klS s) L n a0 rest m L[j])) := by
          rw [List.take_succ_eq_append_getElem hjl, List.all_append, hwhole]
          simp
        refine ⟨[_, _], rfl, (hB55.grow g55112).all, (block_c (hs.grow g0112) (hl.gr g0112) hR hjl).mono ?_⟩
        rintro e w115 ⟨rfl, g115⟩
        have g0115 := g0112.trans g115
        have g55115 := g55112.trans g115
        have go : ∀ {w'} {b : Bool}, Grow w115 w' → b = (L.take (j + 1)).all (fun g => !decide (kF (klS s) g = kF (klS s) L[k]) || oneB (klS s) L n a0 rest m g) → inR ((j : Int) + 1) ∧ ((∃ j' : Nat, (j : Int) + 1 = j' ∧ j' ≤ L.length ∧ b = (L.take j').all (fun g => !decide (kF (klS s) g = kF (klS s) L[k]) || oneB (klS s) L n a0 rest m g) ∧ Grow w93 w') ∧ L.length - Int.toNat ((j : Int) + 1) < L.length - Int.toNat (j : Int)) := fun g h =>
          ⟨by unfold inR; omega, ⟨j + 1, by omega, by omega, h, ((g106.trans g112).trans g115).trans g⟩, by first | omega | (dsimp only; omega)⟩
        have hsame : blkN (klS s) L j = k ↔ kF (klS s) L[j] = kF (klS s) L[k] := by
          have := blk_eq (kl := klS s) hjl hkl
          rw [hb, fa_get hjl, fa_get hkl] at this
          exact this
        refine ⟨_, rfl, condP_i (fun hne => go (Grow.refl _) ?_) fun hbe => ?_⟩
        · have hne : ¬ kF (klS s) L[j] = kF (klS s) L[k] := fun e => by
            have hne : (blkN (klS s) L j : Int) ≠ (k : Int) := by simpa using hne
            have := hsame.2 e
            omega
          rw [hstep, decide_eq_false hne]
          simp
        have hbe : kF (klS s) L[j] = kF (klS s) L[k] := hsame.1 (by
          have hbe : (blkN (klS s) L j : Int) = (k : Int) := by simpa using hbe
          omega)
        rw [decide_eq_true hbe] at hstep
        simp only [Bool.not_true, Bool.false_or] at hstep
        have hgl : a0.2.length = L[j].2.length := by
          have h1 := hlen _ (List.getElem_mem hjl) _ (List.getElem_mem hkl) (kF_rel hbe)
          unfold keyOk at hkey
          simp only [Bool.and_eq_true, decide_eq_true_eq] at hkey
          omega
        have hc115 := hc55.grow g55115
        refine ⟨[_, _], rfl, hc115.all, [_, _], rfl, (hgc.grow g115).all, _, hc115.cell (j := 1) rfl, SlR.ln hu ?_⟩
        rw [List.length_map]
        refine (agrees_c (many := a0.2.length) (SlR.grow hu g0115) (hgu.grow g0115) oA0.2.2.2.2 (hFp _ (List.getElem_mem hjl)) h8 hp (Nat.le_refl _)).mono ?_
        rw [if_pos hgl, List.take_length]
        rintro e w124 ⟨g124, hres2⟩
        cases ho2 : fitR a0.2 L[j].2 m with
        | none =>
          rw [ho2] at hres2
          obtain ⟨mv, rfl⟩ := hres2
          have hone : oneB (klS s) L n a0 rest m L[j] = false := by rw [oneB, ho2]
          rw [hone, Bool.and_false] at hstep
          refine ⟨_, _, rfl, fun d4 => ?_⟩
          have gd4 : Grow w124 (dr w124 d4.1) := (Grow.refl w124).dr d4.1
          exact condP_i (fun _ => cF rfl (go (g124.trans gd4) hstep.symm)) fun _ => go (g124.trans gd4) hstep.symm
        | some m' =>
          rw [ho2] at hres2
          obtain ⟨mb2, kv2, rfl, hmI, hN⟩ := hres2
          have hone : oneB (klS s) L n a0 rest m L[j] = rewR (klS s) L n rest m' := by rw [oneB, ho2]
          rw [hone] at hstep
          refine ⟨_, _, rfl, fun d4 => ?_⟩
          have gd4 : Grow w124 (dr w124 d4.1) := (Grow.refl w124).dr d4.1
          refine condP_i (fun hw => cT rfl ?_) fun hw => go (g124.trans gd4) (by rw [hstep, hw]; rfl)
          rw [hw, Bool.true_and] at hstep
          have hx7 : ∀ x ∈ a0.2, x ≤ 7 := fun x hx => (oA0.2.2.2.2 x hx).2
          have hy1 := hFp _ (List.getElem_mem hjl)
          obtain ⟨k8, keep, -, dom⟩ := fitR_sound hx7 hy1 h8 (by omega) ho2
          have g55d4 := (g55115.trans g124).trans gd4
          have g0d4 := (g0115.trans g124).trans gd4
          refine ⟨[_, _], rfl, (hB55.grow g55d4).all, (with_c (atoms := rest) (hov.gr g55d4) (hmI.grow gd4) hN keep hp (fun a ha => hA3 a (hrm a ha)) (by omega)).mono ?_⟩
          rintro e w130 ⟨wv, rfl, hwv, g130⟩
          have g0130 := g0d4.trans g130
          have hrest : ∀ a, a ∈ rest ↔ a ∈ atoms ∧ a ≠ a0 := fun a => by rw [erest, erase_mem hndA hi, ea0]
          have hac' : Acy (klS s) rest (domM m') := (hac.sub hrest).congr fun x => dom x
          refine ⟨_, rfl, g130, (ih rest m' w130 sv fv wv hrl (hs.grow g0130) (hl.gr g0130) hwv (hT.grow g0130) (fun a ha => hA a (hrm a ha)) ?_ ?_ ?_ (by omega) k8 (posM_fit hx7 hy1 h8 hp (by omega) ho2) hac').mono ?_⟩
          · exact List.all_eq_true.2 fun a ha => List.all_eq_true.1 hK a (hrm a ha)
          · exact fun a ha b hb e => hpl a (hrm a ha) b (hrm b hb) e
          · rw [erest]
            exact List.Pairwise.sublist (List.eraseIdx_sublist ..) hndA
          · rintro e w133 ⟨rfl, g133⟩
            exact ⟨_, rfl, g133, go (((g124.trans gd4).trans g130).trans g133) hstep.symm⟩
      · have hjn : j = L.length := by omega
        rw [hjn, List.take_length] at hwhole
        have hgd : gdB (klS s) L n a0 rest m L[k] = whole := by rw [gdB, hkey, Bool.true_and, hwhole]
        refine condP_i (fun hw => ⟨?_, g0106⟩) fun hw => next (g7293.trans g106) fun _ => by rw [hfa, hgd, hw]
        have : L.any (gdB (klS s) L n a0 rest m) = true := List.any_eq_true.2 ⟨L[k], List.getElem_mem hkl, by rw [hgd, hw]⟩
        rw [this]
end Go.Proofs.YtmjpnfapjcfejaaDoor

/- Contracts of the reference: whether attacks have a cycle; numbers that an atom and a fact give. No condition. -/
namespace Go.Proofs.YtmjpnfapjcfejaaDoor
open Go Go.RowKit VC
set_option linter.unusedSimpArgs false
set_option linter.unusedVariables false

/-! ## An array of five -/
def encC (c : List Nat) : List Value := c.map fun (x : Nat) => Value.int .i64 (x : Int)
theorem encC_get {c : List Nat} {i : Nat} (hi : i < c.length) : (encC c)[i]? = some (.int .i64 (c.getD i 0 : Nat)) := by simp [encC, List.getD, hi]
theorem encC_set (c : List Nat) (i x : Nat) : (encC c).set i (.int .i64 (x : Int)) = encC (c.set i x) := by
  unfold encC
  rw [List.map_set]
/-- The first k are attacked atoms, the others 0. -/
def cyI (V K : List Nat) (k : Nat) : List Nat := (List.range 5).map fun i => if i < k then atkN V K i else 0
theorem cyI_get {V K : List Nat} {k i : Nat} (hi : i < 5) : (cyI V K k).getD i 0 = if i < k then atkN V K i else 0 := by
  unfold cyI
  rw [List.getD, List.getElem?_map, List.getElem?_range hi]
  rfl
theorem cyI_len (V K : List Nat) (k : Nat) : (cyI V K k).length = 5 := by simp [cyI]
theorem cyI_set {V K : List Nat} {k : Nat} (hk : k < 5) : (cyI V K k).set k (atkN V K k) = cyI V K (k + 1) := by
  refine List.ext_getElem (by simp [cyI]) fun i h1 h2 => ?_
  have hi : i < 5 := by simpa [cyI] using h2
  rw [List.getElem_set]
  by_cases e : k = i
  · subst e
    rw [if_pos rfl]
    simp [cyI]
  · rw [if_neg e]
    simp only [cyI, List.getElem_map, List.getElem_range]
    by_cases h : i < k
    · rw [if_pos h, if_pos (by omega)]
    · rw [if_neg h, if_neg (by omega)]
theorem cyI_rch {V K : List Nat} (h5 : V.length ≤ 5) : RchI V K (cyI V K V.length) := by
  have get : ∀ f, (cyI V K V.length).getD f 0 = if f < V.length then atkN V K f else 0 := fun f => by
    rcases Nat.lt_or_ge f 5 with hf | hf
    · exact cyI_get hf
    · rw [if_neg (by omega)]
      simp [List.getD, List.getElem?_eq_none (by rw [cyI_len]; omega : (cyI V K V.length).length ≤ f)]
  refine ⟨cyI_len _ _ _, fun f => ?_, fun f g hf hg ha => ?_, fun rk hrk f g hf hb => ?_⟩
  · rw [get]
    split
    · rename_i h; exact atkN_lt h
    · exact Nat.pow_pos (by omega)
  · rw [get, if_pos hf, atkN_bit hf]
    exact ha
  · rw [get, if_pos hf] at hb
    have ha := hb
    rw [atkN_bit hf] at ha
    exact hrk f g hf (attN_lt hf ha) ha
theorem cyclicR_c {w : World} {sv hv bv : Value} {s : List Int} {b : List Atm} {V K : List Nat} (hs : SlI w sv s) (sb : SlA w bv b) (hS : okS s = true) (oA : ∀ a ∈ b, okA a = true) (h5 : b.length ≤ 5) (hK : keyB s b = true) (eV : V = varsOf b) (eK : K = keysOf s b)
    (hr : ¬ mutN V K → ∃ rk : Nat → Nat, ∀ f g, f < V.length → g < V.length → attN V K f g = true → rk f < rk g) :
    Calls Tryd.prog 15 #[sv, .agg #[hv, bv]] w (Ret w (.bool (mutB V K))) := by
  have hVl : V.length = b.length := by rw [eV]; simp [varsOf]
  refine f15_calls _ _ ⟨_, rfl, fun w1 hw1 w3 hw3 => ?_⟩
  have g1 := alloc_grow hw1
  have g3 := alloc_grow hw3
  have s1 := alloc_size hw1
  have s3 := alloc_size hw3
  have g03 := g1.trans g3
  have hQ3 := (RecV.new hw1).grow g3
  have hC3 : RecV w3 w1.heap.size (encC (cyI V K 0)) := RecV.new hw3
  have fin : ∀ {w'}, Fr (fun i => i = w1.heap.size) w3 w' → Grow w w' := fun hf => g03.fr hf fun i hi e => by omega
  have q : ∀ {w'}, Fr (fun i => i = w1.heap.size) w3 w' → w'.cell? (Addr.add ⟨w.heap.size, 0, none⟩ 1) = some bv := fun hf => (hQ3.fr hf fun e => by omega).cell (j := 1) rfl
  refine ⟨_, hQ3.cell (j := 1) rfl, SlX.ln sb ?_⟩
  refine ⟨fun t w' => ∃ k : Nat, t = k ∧ k ≤ b.length ∧ RecV w' w1.heap.size (encC (cyI V K k)) ∧ Fr (fun i => i = w1.heap.size) w3 w', fun t _ => b.length - t.toNat, ⟨0, rfl, by omega, hC3, Fr.refl _ _⟩, ?_⟩
  rintro - t w12 ⟨k, rfl, hk, hC, hf12⟩
  refine condD (fun hlt => ?_) fun hge => ?_
  · have hkl : k < b.length := by omega
    refine ⟨bv, q hf12, (attackedR_c (gone := 0) (hs.grow (fin hf12)) (sb.gr (fin hf12)) hS oA h5 hK (by omega) hkl).mono ?_⟩
    rw [VG_0, KG_0, ← eV, ← eK]
    rintro e w14 ⟨rfl, g14⟩
    have hC14 := hC.grow g14
    simp only [Int.toNat_natCast, Nat.mul_one]
    refine ⟨_, rfl, by omega, ⟨_, hC14.cell (j := k) (encC_get (by rw [cyI_len]; omega))⟩, hC14.free k, fun w17 hw17 => ⟨by unfold inR; omega, ⟨k + 1, by omega, by omega, ?_, (hf12.trans (Fr.of_grow g14)).trans (RecV.set_fr hw17)⟩, by first | omega | (dsimp only; omega)⟩⟩
    rw [← cyI_set (by omega), ← encC_set]
    exact hC14.set hw17
  have hkn : k = V.length := by omega
  rw [hkn] at hC
  have rd : ∀ {w'} {c : List Nat}, RchI V K c → RecV w' w1.heap.size (encC c) → ∀ {i : Nat}, i < V.length → w'.cell? (Addr.add ⟨w1.heap.size, 0, none⟩ i) = some (.int .i64 (c.getD i 0 : Nat)) := fun {w' c} hc hr {i} hi => hr.cell (encC_get (by rw [hc.len]; omega))
  have lt32 : ∀ {c : List Nat}, RchI V K c → ∀ i, c.getD i 0 < 32 := fun hc i => by
    have h1 := hc.lt i
    have h2 : 2 ^ V.length ≤ 2 ^ 5 := Nat.pow_le_pow_right (by omega) (by omega)
    omega
  refine ⟨bv, q hf12, SlX.ln sb ?_⟩
  refine ⟨fun t w' => ∃ (r : Nat) (c : List Nat), t = r ∧ r ≤ b.length ∧ RchI V K c ∧ SelfB V K c (fun _ _ => 0 < r) ∧ RecV w' w1.heap.size (encC c) ∧ Fr (fun i => i = w1.heap.size) w3 w', fun t _ => b.length - t.toNat, ⟨0, _, rfl, by omega, cyI_rch (by omega), fun f g _ _ _ _ h => by omega, hC, hf12⟩, ?_⟩
  rintro - t w26 ⟨r, c, rfl, hr0, hc, hsb, hC26, hf26⟩
  refine condD (fun hlt => ?_) fun hge => ?_
  · refine ⟨bv, q hf26, SlX.ln sb ?_⟩
    refine ⟨fun t w' => ∃ (f : Nat) (c : List Nat), t = f ∧ f ≤ b.length ∧ RchI V K c ∧ SelfB V K c (fun i _ => 0 < r ∨ i < f) ∧ RecV w' w1.heap.size (encC c) ∧ Fr (fun i => i = w1.heap.size) w3 w', fun t _ => b.length - t.toNat, ⟨0, _, rfl, by omega, hc, hsb.mono fun f g _ _ h => h.elim id fun h => by omega, hC26, hf26⟩, ?_⟩
    rintro - t w35 ⟨f, c, rfl, hf, hc, hsb, hC35, hf35⟩
    refine condD (fun hlt2 => ?_) fun hge2 => ?_
    · have hfl : f < V.length := by omega
      refine ⟨bv, q hf35, SlX.ln sb ?_⟩
      refine ⟨fun t w' => ∃ (g : Nat) (c : List Nat), t = g ∧ g ≤ b.length ∧ RchI V K c ∧ SelfB V K c (fun i j => 0 < r ∨ i < f ∨ (i = f ∧ j < g)) ∧ RecV w' w1.heap.size (encC c) ∧ Fr (fun i => i = w1.heap.size) w3 w', fun t _ => b.length - t.toNat, ⟨0, _, rfl, by omega, hc, hsb.mono fun i j _ _ h => by
        rcases h with h | h | h
        · exact .inl h
        · exact .inr h
        · omega, hC35, hf35⟩, ?_⟩
      rintro - t w44 ⟨g, c, rfl, hg, hc, hsb, hC44, hf44⟩
      refine condD (fun hlt3 => ?_) fun hge3 => ?_
      · have hgl : g < V.length := by omega
        have c32 := lt32 hc f
        have d32 := lt32 hc g
        simp only [Int.toNat_natCast, Nat.mul_one]
        refine ⟨by omega, _, rd hc hC44 hfl, by omega, condD (fun h1 d => ?_) fun h1 => ?_⟩
        · have h1 := (bitR (by omega)).1 h1
          have gd : Grow w44 (dr w44 d.1) := (Grow.refl w44).dr d.1
          have hCd := hC44.grow gd
          refine ⟨by omega, by omega, _, rd hc hCd hfl, _, rd hc hCd hgl, by omega, ⟨_, rd hc hCd hfl⟩, hCd.free f, fun w49 hw49 => ⟨by unfold inR; omega, ⟨g + 1, c.set f (c.getD f 0 ||| c.getD g 0), by omega, by omega, hc.step hfl (by omega) hgl h1, ?_, ?_, (hf44.trans (Fr.of_grow gd)).trans (RecV.set_fr hw49)⟩, by first | omega | (dsimp only; omega)⟩⟩
          · refine (SelfB.step hc hsb hfl (by omega) hgl).mono fun i j _ _ h => ?_
            rcases h with h | h | ⟨h, h2⟩
            · exact .inl (.inl h)
            · exact .inl (.inr (.inl h))
            · by_cases e : j = g
              · exact .inr ⟨h, e⟩
              · exact .inl (.inr (.inr ⟨h, by first | omega | (dsimp only; omega)⟩))
          · rw [← encC_set]
            rw [iOr_nat (by omega) (by omega)] at hw49
            exact hCd.set hw49
        · refine ⟨by unfold inR; omega, ⟨g + 1, c, by omega, by omega, hc, fun i j hi hj a1 a2 h => ?_, hC44, hf44⟩, by first | omega | (dsimp only; omega)⟩
          rcases h with h | h | ⟨h, h2⟩
          · exact hsb i j hi hj a1 a2 (.inl h)
          · exact hsb i j hi hj a1 a2 (.inr (.inl h))
          · by_cases e : j = g
            · subst h
              subst e
              exact absurd ((bitR (by omega)).2 (hc.has i j hi hj a1)) h1
            · exact hsb i j hi hj a1 a2 (.inr (.inr ⟨h, by first | omega | (dsimp only; omega)⟩))
      · have hgn : g = b.length := by omega
        refine ⟨by unfold inR; omega, ⟨f + 1, c, by omega, by omega, hc, hsb.mono fun i j _ hj h => ?_, hC44, hf44⟩, by first | omega | (dsimp only; omega)⟩
        rcases h with h | h
        · exact .inl h
        · by_cases e : i = f
          · exact .inr (.inr ⟨e, by first | omega | (dsimp only; omega)⟩)
          · exact .inr (.inl (by omega))
    · have hfn : f = b.length := by omega
      refine ⟨by unfold inR; omega, ⟨r + 1, c, by omega, by omega, hc, hsb.mono fun i j hi _ _ => .inr (by omega), hC35, hf35⟩, by first | omega | (dsimp only; omega)⟩
  · have hrn : r = b.length := by omega
    refine ⟨bv, q hf26, SlX.ln sb ?_⟩
    refine ⟨fun t w' => ∃ f : Nat, t = f ∧ f ≤ b.length ∧ (∀ i, i < f → (c.getD i 0).testBit i = false) ∧ w' = w26, fun t _ => b.length - t.toNat, ⟨0, rfl, by omega, fun i hi => by omega, rfl⟩, ?_⟩
    rintro - t w58 ⟨f, rfl, hf, hno, rfl⟩
    refine condD (fun hlt => ?_) fun hge => ?_
    · have hfl : f < V.length := by omega
      have c32 := lt32 hc f
      simp only [Int.toNat_natCast, Nat.mul_one]
      refine ⟨by omega, _, rd hc hC26 hfl, by omega, condD (fun h1 => ⟨?_, fin hf26⟩) fun h1 => ⟨by unfold inR; omega, ⟨f + 1, by omega, by omega, fun i hi => ?_, by first | rfl | trivial⟩, by first | omega | (dsimp only; omega)⟩⟩
      · have h1 := (bitR (by omega)).1 h1
        have : mutB V K = true := mutB_iff.2 (Classical.byContradiction fun hn => by
          obtain ⟨rk, hrk⟩ := hr hn
          have := hc.rise rk hrk f f hfl h1
          omega)
        rw [this]
      · by_cases e : i = f
        · subst e
          rw [← Bool.not_eq_true]
          exact fun h => h1 ((bitR (by omega)).2 h)
        · exact hno i (by omega)
    · have : mutB V K = false := by
        rw [← Bool.not_eq_true, mutB_iff]
        rintro ⟨i, j, hi, hj, a1, a2⟩
        have h1 := hsb i j hi hj a1 a2 (by omega)
        rw [hno i (by omega)] at h1
        cases h1
      exact ⟨by rw [this], fin hf26⟩
/-! ## An atom and a fact -/
/-- What fit returns. -/
def FitQ (w : World) (o : Option (List Int)) : Ending → World → Prop := fun e w' => Grow w w' ∧ ∃ m2, m2.length = 8 ∧ e = .returned (.tuple #[.agg (encV m2).toArray, .bool o.isSome]) ∧ ∀ m', o = some m' → m2 = m'
theorem fitQ_c {w : World} {r q : Int} {tv fv : Value} {xs ys m : List Int} {n : Nat} (hx : SlI w tv xs) (hf : SlI w fv ys) (hT : ∀ x ∈ xs, -9 ≤ x ∧ x ≤ 7) (hY : ∀ y ∈ ys, 1 ≤ y) (h8 : m.length = 8) (hn : n ≤ xs.length) (hl : xs.length = ys.length) :
    Calls Tryd.prog 41 #[.agg #[.int .i64 r, tv], .agg #[.int .i64 q, fv], .int .i64 (n : Int), .agg (encV m).toArray] w (FitQ w (fitR (xs.take n) ys m)) := by
  refine f41_calls _ _ _ _ ⟨_, rfl, fun w1 hw1 => ⟨_, rfl, fun w3 hw3 => ⟨_, rfl, fun w5 hw5 w7 hw7 => ?_⟩⟩⟩
  have g1 := alloc_grow hw1
  have g3 := alloc_grow hw3
  have g5 := alloc_grow hw5
  have g7 := alloc_grow hw7
  have s1 := alloc_size hw1
  have s3 := alloc_size hw3
  have s5 := alloc_size hw5
  have s7 := alloc_size hw7
  have g07 := ((g1.trans g3).trans g5).trans g7
  have hA7 := (RecV.new hw1).grow ((g3.trans g5).trans g7)
  have hF7 := (RecV.new hw3).grow (g5.trans g7)
  have hM7 : RecV w7 w3.heap.size (encV m) := (RecV.new hw5).grow g7
  have hR7 := RecV.new hw7
  obtain ⟨zs, ez⟩ : ∃ zs, zs = xs.take n := ⟨_, rfl⟩
  have hle : zs.length = n := by rw [ez, List.length_take]; omega
  have hzT : ∀ x ∈ zs, -9 ≤ x ∧ x ≤ 7 := fun x hx => hT x (List.mem_of_mem_take (ez ▸ hx))
  have hmx := hx.len_le
  obtain ⟨ua, un, uc, ue, ul, uh, um, ub, hv'⟩ := hx.upto (i := n) (k := .i64) (z := (n : Int)) (K := fun x => SlI w x (xs.take n)) rfl hn fun v' h => h
  refine ⟨_, hA7.cell (j := 1) rfl, ua, un, uc, ue, ul, uh, um, ub, hv'.ln ?_⟩
  rw [← ez] at hv' ⊢
  rw [hle]
  have fin : ∀ {w'}, Fr (fun i => i = w3.heap.size) w7 w' → Grow w w' := fun hf => g07.fr hf fun i hi e => by omega
  -- numbers that do not agree
  have no : ∀ {wd : World} {mk : List Int}, mk.length = 8 → Fr (fun i => i = w3.heap.size) w7 wd → RecV wd w3.heap.size (encV mk) → fitR zs ys m = none → ∃ cs_v : List Value, cs_v.length = 8 ∧ (∀ j v, cs_v[j]? = some v → wd.cell? (Addr.add ⟨w3.heap.size, 0, none⟩ j) = some v) ∧ ∃ cs' : Array Value, (Value.agg cs_v.toArray) = Value.agg cs' ∧ cs'.size = 8 ∧ ∃ w_v : World, (storeCells ⟨w5.heap.size, 0, none⟩ cs'.toList).run Tryd.prog wd = .ok () w_v ∧ ∃ cs_v2 : List Value, cs_v2.length = 8 ∧ (∀ j v, cs_v2[j]? = some v → w_v.cell? (Addr.add ⟨w5.heap.size, 0, none⟩ j) = some v) ∧ FitQ w (fitR zs ys m) (.returned (.tuple #[(Value.agg cs_v2.toArray), (Value.bool false)])) w_v := fun {wd mk} hk8 hfd hMd h => by
    have hRd := hR7.fr hfd fun e => by omega
    refine ⟨encV mk, encV_len mk, hMd.all, hRd.store (cs := encV mk) (by rw [encV_len]; rfl) (encV_one mk) fun w33 hf33 hr33 => ⟨encV mk, encV_len mk, hr33.all, (fin hfd).fr hf33 fun i hi e => by omega, mk, hk8, by rw [h]; rfl, fun m' h2 => ?_⟩⟩
    rw [h] at h2
    cases h2
  refine ⟨fun t w' => ∃ (k : Nat) (mk : List Int), t = k ∧ k ≤ n ∧ fitR (zs.take k) ys m = some mk ∧ RecV w' w3.heap.size (encV mk) ∧ Fr (fun i => i = w3.heap.size) w7 w', fun t _ => n - t.toNat, ⟨0, m, rfl, by omega, by rw [List.take_zero]; rfl, hM7, Fr.refl _ _⟩, ?_⟩
  rintro - t w22 ⟨k, mk, rfl, hk, hfit, hM, hfr⟩
  have g022 := fin hfr
  have hk8 : mk.length = 8 := (fitR_sound (fun x hx => (hzT x (List.mem_of_mem_take hx)).2) hY h8 (by rw [List.length_take]; omega) hfit).1
  refine condD (fun hlt => ?_) fun hge => ?_
  · have hkz : k < zs.length := by omega
    have hky : k < ys.length := by omega
    have hF22 := hF7.fr hfr fun e => by omega
    have hstep := fitR_take (m := m) hkz hky
    rw [hfit] at hstep
    have hbad : fitR (zs.take (k + 1)) ys m = none → fitR zs ys m = none := fun h => fitR_bad (k := k + 1) (by omega) h
    have hxk := hzT _ (List.getElem_mem hkz)
    have hy1 := hY _ (List.getElem_mem hky)
    refine (hv'.grow g022).rd rfl hkz ?_
    obtain ⟨x, ex⟩ : ∃ x, x = zs[k] := ⟨_, rfl⟩
    obtain ⟨y, ey⟩ : ∃ y, y = ys[k] := ⟨_, rfl⟩
    rw [← ex]
    rw [← ex, ← ey] at hstep
    rw [← ex] at hxk
    rw [← ey] at hy1
    have hstep : fitR (zs.take (k + 1)) ys m = if x < 0 then (if y = -x then some mk else none) else if mg mk x.toNat ≠ 0 ∧ mg mk x.toNat ≠ y then none else some (mk.set x.toNat y) := hstep
    have put : 0 ≤ x → fitR (zs.take (k + 1)) ys m = some (mk.set x.toNat y) → ∀ {wd : World}, Grow w22 wd → ((0 : Int) ≤ x ∧ x < ((8 : Nat) : Int)) ∧ (∃ old, wd.cell? (Addr.add ⟨w3.heap.size, 0, none⟩ (Int.toNat x * 1)) = some old) ∧ wd.frozen? (Addr.add ⟨w3.heap.size, 0, none⟩ (Int.toNat x * 1)) = false ∧ ∀ w53, w53 = wd.setCell (Addr.add ⟨w3.heap.size, 0, none⟩ (Int.toNat x * 1)) (.int .i64 y) →
        inR ((k : Int) + 1) ∧ ((∃ (k' : Nat) (mk : List Int), (k : Int) + 1 = k' ∧ k' ≤ n ∧ fitR (zs.take k') ys m = some mk ∧ RecV w53 w3.heap.size (encV mk) ∧ Fr (fun i => i = w3.heap.size) w7 w53) ∧ n - Int.toNat ((k : Int) + 1) < n - Int.toNat (k : Int)) := fun h0 h {wd} gd => by
      have hMd := hM.grow gd
      rw [Nat.mul_one]
      refine ⟨by omega, ⟨_, hMd.cell (j := x.toNat) (encV_get mk (by omega))⟩, hMd.free _, fun w53 hw53 => ⟨by unfold inR; omega, ⟨k + 1, _, by omega, by omega, h, ?_, (hfr.trans (Fr.of_grow gd)).trans (RecV.set_fr hw53)⟩, by first | omega | (dsimp only; omega)⟩⟩
      rw [← encV_set hk8 (by omega)]
      exact hMd.set hw53
    have rdm : 0 ≤ x → ∀ {wd : World}, Grow w22 wd → wd.cell? (Addr.add ⟨w3.heap.size, 0, none⟩ (Int.toNat x * 1)) = some (.int .i64 (mg mk x.toNat)) := fun h0 {wd} gd => cells8 (hM.grow gd) (by omega)
    refine condD (fun hneg => ⟨_, hF22.cell (j := 1) rfl, (hf.grow g022).rd rfl hky ?_⟩) fun hpos => cT (decide_eq_true (by omega)) ⟨by omega, _, rdm (by omega) (Grow.refl _), ?_⟩
    · rw [← ey]
      refine ⟨by unfold inR; omega, condP_i (fun hne => no hk8 hfr hM (hbad ?_)) fun he => cF (decide_eq_false (by omega)) fun d => cF (decide_eq_false (by omega)) ⟨by unfold inR; omega, ⟨k + 1, mk, by omega, by omega, ?_, hM.grow ((Grow.refl w22).dr d.1), hfr.trans (Fr.of_grow ((Grow.refl w22).dr d.1))⟩, by first | omega | (dsimp only; omega)⟩⟩
      · have hne : y ≠ 0 - x := by simpa using hne
        rw [hstep, if_pos hneg, if_neg (by omega)]
      · have he : y = 0 - x := by simpa using he
        rw [hstep, if_pos hneg, if_pos (by omega)]
    · refine condP_i (fun hm0 => ⟨by omega, _, rdm (by omega) (Grow.refl _), _, hF22.cell (j := 1) rfl, (hf.grow g022).rd rfl hky ?_⟩) fun hm0 d => cT (decide_eq_true (by omega)) ?_
      · have hm0 : mg mk x.toNat ≠ 0 := by simpa using hm0
        rw [← ey]
        intro d
        have gd : Grow w22 (dr w22 d.1) := (Grow.refl w22).dr d.1
        refine condP_i (fun hne => no hk8 (hfr.trans (Fr.of_grow gd)) (hM.grow gd) (hbad ?_)) fun he => cT (decide_eq_true (by omega)) ⟨_, (hF22.grow gd).cell (j := 1) rfl, (hf.grow (g022.trans gd)).rd rfl hky ?_⟩
        · have hne : mg mk x.toNat ≠ y := by simpa using hne
          rw [hstep, if_neg (by omega), if_pos ⟨hm0, hne⟩]
        · have he : mg mk x.toNat = y := by simpa using he
          rw [← ey]
          exact put (by omega) (by rw [hstep, if_neg (by omega), if_neg fun h => h.2 he]) gd
      · have hm0 : mg mk x.toNat = 0 := by simpa using hm0
        have gd : Grow w22 (dr w22 d.1) := (Grow.refl w22).dr d.1
        refine ⟨_, (hF22.grow gd).cell (j := 1) rfl, (hf.grow (g022.trans gd)).rd rfl hky ?_⟩
        rw [← ey]
        exact put (by omega) (by rw [hstep, if_neg (by omega), if_neg fun h => h.1 hm0]) gd
  · have hkn : k = n := by omega
    rw [hkn, List.take_of_length_le (by omega)] at hfit
    have hRd := hR7.fr hfr fun e => by omega
    rw [hfit]
    refine ⟨encV mk, encV_len mk, hM.all, hRd.store (cs := encV mk) (by rw [encV_len]; rfl) (encV_one mk) fun w33 hf33 hr33 => ⟨encV mk, encV_len mk, hr33.all, g022.fr hf33 fun i hi e => by omega, mk, hk8, rfl, fun m' h2 => Option.some.inj h2⟩⟩
end Go.Proofs.YtmjpnfapjcfejaaDoor
