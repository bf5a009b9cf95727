/- The list of the attacks; a cycle of attacks is two atoms that attack each other. Of no program. No condition. -/
import Derived.Test.YtleiddajojgmmaaTc
import Derived.Test.YtleiddajojgmmaaMv
import Derived.Test.YtleiddajojgmmaaMc
import Derived.Test.YtleiddajojgmmaaVr
namespace Go.Proofs.Ytleiddajojgmmaa
open VC
set_option linter.unusedSimpArgs false
set_option linter.unusedVariables false

def mutN (V K : List Nat) : Prop := ∃ f g, f < V.length ∧ g < V.length ∧ attN V K f g = true ∧ attN V K g f = true
section
variable {kl : Int → Nat} {atoms : List Atm} {D : Nat → Prop} {V K : List Nat}
end
/-! ## Deletion of the atoms that nothing attacks (the program's way) -/
/-- Atom i is left, and no atom that is left attacks it. -/
def freeT (V K : List Nat) (left i : Nat) : Prop := left.testBit i = true ∧ ∀ f, f < V.length → attN V K f i = true → left.testBit f = false
/-- Atoms that attack each other are left. -/
def MutIn (V K : List Nat) (left : Nat) : Prop := ∀ f g, f < V.length → g < V.length → attN V K f g = true → attN V K g f = true → left.testBit f = true
theorem MutIn.clr {V K : List Nat} {left i : Nat} (h : MutIn V K left) (hi : freeT V K left i) : MutIn V K (clr left i) := fun f g hf hg h1 h2 => by
  have e := h f g hf hg h1 h2
  refine clr_bit.2 ⟨e, ?_⟩
  rintro rfl
  have := hi.2 g hg h2
  rw [h g f hg hf h2 h1] at this
  cases this
theorem MutIn.zero {V K : List Nat} (h : MutIn V K 0) : ¬ mutN V K := fun ⟨f, g, hf, hg, h1, h2⟩ => by
  have := h f g hf hg h1 h2
  rw [Nat.zero_testBit] at this
  cases this
theorem MutIn.init {V K : List Nat} : MutIn V K (2 ^ V.length - 1) := fun f g hf hg _ _ => by
  rw [Nat.testBit_two_pow_sub_one]
  exact decide_eq_true hf
/-! ## What can be reached (the reference's way) -/
structure RchI (V K : List Nat) (c : List Nat) : Prop where
  len : c.length = 5
  lt : ∀ f, c.getD f 0 < 2 ^ V.length
  has : ∀ f g, f < V.length → g < V.length → attN V K f g = true → (c.getD f 0).testBit g = true
  rise : ∀ rk : Nat → Nat, (∀ f g, f < V.length → g < V.length → attN V K f g = true → rk f < rk g) → ∀ f g, f < V.length → (c.getD f 0).testBit g = true → rk f < rk g
theorem RchI.step {V K : List Nat} {c : List Nat} {f g : Nat} (h : RchI V K c) (hf : f < V.length) (hV : V.length ≤ 5) (hg : g < V.length) (hb : (c.getD f 0).testBit g = true) : RchI V K (c.set f (c.getD f 0 ||| c.getD g 0)) := by
  have get : ∀ i, (c.set f (c.getD f 0 ||| c.getD g 0)).getD i 0 = if i = f then c.getD f 0 ||| c.getD g 0 else c.getD i 0 := fun i => by
    simp only [List.getD_eq_getElem?_getD, List.getElem?_set]
    by_cases e : f = i
    · subst e
      have := h.len
      rw [if_pos rfl, if_pos (by omega), if_pos rfl]
      simp
    · rw [if_neg e, if_neg fun e2 => e e2.symm]
  refine ⟨by rw [List.length_set]; exact h.len, fun i => ?_, fun i j hi hj ha => ?_, fun rk hrk i j hi hb2 => ?_⟩
  · rw [get]
    split
    · exact Nat.or_lt_two_pow (h.lt f) (h.lt g)
    · exact h.lt i
  · rw [get]
    split
    · rename_i e
      subst e
      rw [Nat.testBit_or, h.has i j hi hj ha, Bool.true_or]
    · exact h.has i j hi hj ha
  · rw [get] at hb2
    split at hb2
    · rename_i e
      subst e
      rw [Nat.testBit_or, Bool.or_eq_true] at hb2
      rcases hb2 with h1 | h1
      · exact h.rise rk hrk i j hi h1
      · have a := h.rise rk hrk i g hi hb
        have b := h.rise rk hrk g j hg h1
        omega
    · exact h.rise rk hrk i j hi hb2
/-- Of atoms that attack each other: those whose turn has come reach themselves. -/
def SelfB (V K : List Nat) (c : List Nat) (p : Nat → Nat → Prop) : Prop := ∀ f g, f < V.length → g < V.length → attN V K f g = true → attN V K g f = true → p f g → (c.getD f 0).testBit f = true
theorem SelfB.mono {V K c : List Nat} {p q : Nat → Nat → Prop} (h : SelfB V K c p) (hpq : ∀ f g, f < V.length → g < V.length → q f g → p f g) : SelfB V K c q := fun f g hf hg h1 h2 hq => h f g hf hg h1 h2 (hpq f g hf hg hq)
theorem SelfB.step {V K : List Nat} {c : List Nat} {f g : Nat} {p : Nat → Nat → Prop} (h : RchI V K c) (hs : SelfB V K c p) (hf : f < V.length) (hV : V.length ≤ 5) (hg : g < V.length) : SelfB V K (c.set f (c.getD f 0 ||| c.getD g 0)) fun i j => p i j ∨ (i = f ∧ j = g) := fun i j hi hj h1 h2 hp => by
  have get : ∀ i, (c.set f (c.getD f 0 ||| c.getD g 0)).getD i 0 = if i = f then c.getD f 0 ||| c.getD g 0 else c.getD i 0 := fun i => by
    simp only [List.getD_eq_getElem?_getD, List.getElem?_set]
    by_cases e : f = i
    · subst e
      have := h.len
      rw [if_pos rfl, if_pos (by omega), if_pos rfl]
      simp
    · rw [if_neg e, if_neg fun e2 => e e2.symm]
  rw [get]
  rcases hp with hp | ⟨rfl, rfl⟩
  · have := hs i j hi hj h1 h2 hp
    split
    · rename_i e
      subst e
      rw [Nat.testBit_or, this, Bool.true_or]
    · exact this
  · rw [if_pos rfl, Nat.testBit_or, h.has j i hj hi h2, Bool.or_true]
end Go.Proofs.Ytleiddajojgmmaa

/- Contract: the deletion of ears, by the program. No condition. -/
namespace Go.Proofs.Ytleiddajojgmmaa
open Go Go.RowKit VC
set_option linter.unusedSimpArgs false
set_option linter.unusedVariables false

/-- An array of ints in the block A. -/
abbrev Arr (w : World) (A n : Nat) (xs : List Int) : Prop := Own w A 3 1 (.slice (some ⟨A, 0, none⟩) n n) n (xs.map VC.encI)
theorem Arr.put {w w' : World} {A n i : Nat} {xs : List Int} {z : Int} (h : Arr w A n xs) (hi : i < n) (hw : w' = w.setCell ⟨A, i, none⟩ (.int .i64 z)) : Arr w' A n (xs.set i z) := by
  have h9 := Own.set h hi hw
  have e : (xs.map VC.encI).set i (Value.int .i64 z) = (xs.set i z).map VC.encI := by
    rw [show Value.int .i64 z = VC.encI z from rfl, ← List.map_set]
  rwa [e] at h9
theorem Arr.sl {w : World} {A n : Nat} {xs : List Int} (h : Arr w A n xs) (hl : xs.length = n) : SlI w (.slice (some ⟨A, 0, none⟩) n n) xs := Own.slI h
theorem andNot_zero {a b : Nat} (ha : a < 256) (hb : b < 256) : (iAndNot .i64 (a : Int) (b : Int) = 0) ↔ a &&& b = a := by
  rw [iAndNot_nat (by omega) (by omega)]
  constructor
  · intro h
    have h : nSub a b = 0 := by omega
    refine sub_bits.2 fun x hx => ?_
    have h2 := nSub_bit a b x
    rw [h, Nat.zero_testBit, hx] at h2
    simpa using h2.symm
  · intro h
    have : nSub a b = 0 := Nat.eq_of_testBit_eq fun x => by
      rw [nSub_bit, Nat.zero_testBit]
      cases hx : a.testBit x with
      | false => rfl
      | true => rw [sub_bits.1 h x hx]; rfl
    rw [this]
    rfl
end Go.Proofs.Ytleiddajojgmmaa

/- Contracts: closures of sets, by the program: lists of dependencies, copied, one left out. No condition. -/
namespace Go.Proofs.Ytleiddajojgmmaa
open Go Go.RowKit VC
set_option linter.unusedSimpArgs false
set_option linter.unusedVariables false

/-! ## Lists of dependencies -/
theorem el_dep : ElT Try.prog 43 37 2 16 (.agg #[.int .i64 0, .int .i64 0]) := ⟨by kernel_rfl, ⟨Try.t37, by kernel_rfl, by kernel_rfl, by kernel_rfl, by kernel_rfl⟩, rfl⟩
def encD (l : List (Nat × Nat)) : List (Int × Int) := l.map fun d => ((d.1 : Int), (d.2 : Int))
theorem encD_len (l : List (Nat × Nat)) : (encD l).length = l.length := by simp [encD]
theorem encD_get {l : List (Nat × Nat)} {i : Nat} (h : i < l.length) : (encD l)[i]'(by rw [encD_len]; exact h) = ((l[i].1 : Int), (l[i].2 : Int)) := by simp [encD]
abbrev SlD (w : World) (v : Value) (l : List (Nat × Nat)) : Prop := SlR spF w v (encD l)
abbrev OwnD (w : World) (B : Nat) (v : Value) (l : List (Nat × Nat)) : Prop := Own w B 37 2 v l.length ((encD l).flatMap spF)
theorem OwnD.sl {w : World} {B : Nat} {v : Value} {l : List (Nat × Nat)} (h : OwnD w B v l) : SlD w v l := by
  have := Own.slC h
  unfold SlD SlR
  rw [encD_len]
  exact this
theorem OwnD.snoc {w : World} {B : Nat} {v : Value} {l : List (Nat × Nat)} {d : Nat × Nat} (h : Own w B 37 2 v (l.length + 1) ((encD l).flatMap spF ++ spF ((d.1 : Int), (d.2 : Int)))) : OwnD w B v (l ++ [d]) := by
  have e1 : (l ++ [d]).length = l.length + 1 := by simp
  have e2 : (encD (l ++ [d])).flatMap spF = (encD l).flatMap spF ++ spF ((d.1 : Int), (d.2 : Int)) := by simp [encD]
  unfold OwnD
  rw [e1, e2]
  exact h
/-- A dependency is read into a variable of its own. -/
theorem locD {P : Program} {w0 w : World} {v : Value} {l : List (Nat × Nat)} (h : SlD w0 v l) (g : Grow w0 w) {i : Nat} {j : Int} (hj : j = (i : Int)) (hi : i < l.length) {zs : Array Value} (hz : zs.size = 2) {t : TypeId} {K : World → Prop}
    (hk : ∀ w2, Grow w w2 → w.heap.size < w2.heap.size → RecV w2 w.heap.size [.int .i64 (l[i].1 : Int), .int .i64 (l[i].2 : Int)] → K w2) :
    ∃ (a : Addr) (m c : Nat), v = .slice (some a) m c ∧ ((0 : Int) ≤ j ∧ j < (m : Int)) ∧ ∃ cs : List Value, cs.length = 2 ∧ (∀ t u, cs[t]? = some u → w.cell? (Addr.add (a.add (Int.toNat j * 2)) t) = some u) ∧
      ∀ w1, w1 = w.alloc (.cells zs t) → ∃ cs' : Array Value, (Value.agg cs.toArray) = Value.agg cs' ∧ cs'.size = 2 ∧ ∃ w2 : World, (storeCells ⟨w.heap.size, 0, none⟩ cs'.toList).run P w1 = .ok () w2 ∧ K w2 := by
  refine SlR.rd (SlR.grow h g) spF_len hj (by rw [encD_len]; exact hi) ?_
  intro w1 hw1
  rw [encD_get hi]
  have := RecV.init (P := P) (cs := spF ((l[i].1 : Int), (l[i].2 : Int))) hw1 (by rw [hz]; rfl) (spF_one _) (K := K) fun w2 hg hs hc => hk w2 hg hs hc
  rw [hz] at this
  exact this
/-! ## Sets of attributes -/
def smallD (l : List (Nat × Nat)) : Prop := ∀ d ∈ l, d.1 < 256 ∧ d.2 < 256
theorem indexD_no {w : World} {v : Value} {l : List (Nat × Nat)} {g : FuncId} {fst cap : Array Value} (hs : SlD w v l) (hg : callOK g = true) (hf : ∀ d ∈ l, ∀ w', Grow w w' → Calls Try.prog g (fst ++ #[.agg (spF ((d.1 : Int), (d.2 : Int))).toArray] ++ cap) w' (Ret w' (.bool false))) :
    Calls Try.prog 102 #[v, .func (.func g) fst cap] w (Ret w (.int .i64 (-1))) := by
  refine f102_calls _ _ ?_
  have hle := SlR.len_le hs
  rw [encD_len] at hle
  refine SlR.ln hs ?_
  rw [encD_len]
  refine ⟨fun t w' => ∃ k : Nat, t = k ∧ k ≤ l.length ∧ Grow w w', fun t _ => l.length - t.toNat, ⟨0, rfl, by omega, Grow.refl w⟩, ?_⟩
  rintro - t w1 ⟨k, rfl, hk, hw⟩
  refine condD (fun hlt => ?_) (fun hge => ⟨rfl, hw⟩)
  have hkl : k < l.length := by omega
  refine SlR.rd (SlR.grow hs hw) spF_len rfl (by rw [encD_len]; exact hkl) ?_
  rw [encD_get hkl]
  refine ⟨g, fst, cap, rfl, hg, (hf _ (List.getElem_mem hkl) w1 hw).mono ?_⟩
  rintro e w2 ⟨rfl, g2⟩
  exact ⟨_, rfl, cF rfl ⟨by unfold inR; omega, ⟨k + 1, by omega, by omega, hw.trans g2⟩, by first | omega | (dsimp only; omega)⟩⟩
/-! ## Closures -/
theorem closure1_c {w : World} {v : Value} {l : List (Nat × Nat)} {a : Nat} {p : Addr} (hc : w.cell? p = some v) (hs : SlD w v l) (hsm : smallD l) (ha : a < 256) : Calls Try.prog 63 #[.int .i64 (a : Int), .pointer (some p)] w (Ret w (.int .i64 (clF l a : Nat))) := by
  refine f63_calls _ _ ?_
  have hcl := clF_is l a
  have hle := SlR.len_le hs
  rw [encD_len] at hle
  refine ⟨fun set again w' => ∃ c : Nat, set = c ∧ c < 256 ∧ bs a c ∧ bs c (clF l a) ∧ (again = false → ∀ d ∈ l, bs d.1 c → bs d.2 c) ∧ Grow w w', fun set again _ => (if again then 1 else 0) + (256 - set.toNat), ⟨a, rfl, ha, bs_refl _, hcl.sub, (fun h => by cases h), Grow.refl _⟩, ?_⟩
  rintro - set again w6 ⟨c, rfl, hc256, hac, hca, hdone, g6⟩
  refine condP_i (fun hag => ⟨v, g6.cell hc, ?_⟩) fun hag => ⟨?_, g6⟩
  · subst hag
    refine SlR.ln (SlR.grow hs g6) ?_
    rw [encD_len]
    refine ⟨fun set again t w' => ∃ (k c' : Nat), t = k ∧ k ≤ l.length ∧ set = c' ∧ c' < 256 ∧ bs c c' ∧ bs c' (clF l a) ∧ (again = true → c < c') ∧ (again = false → c' = c ∧ ∀ d ∈ l.take k, bs d.1 c → bs d.2 c) ∧ Grow w w', fun _ _ t _ => l.length - t.toNat, ⟨0, c, rfl, by omega, rfl, hc256, bs_refl _, hca, (fun h => by cases h), (fun _ => ⟨rfl, fun d hd => by cases hd⟩), g6⟩, ?_⟩
    rintro - set again t w17 ⟨k, c', rfl, hk, rfl, hc', hcc, hcl', hgt, hsame, g17⟩
    refine condD (fun hlt => ?_) fun hge => ?_
    · have hkl : k < l.length := by omega
      have hd := hsm _ (List.getElem_mem hkl)
      refine locD hs g17 rfl hkl rfl fun w23 g23 s23 hr => ⟨_, hr.cell (j := 0) rfl, ?_⟩
      have g023 := g17.trans g23
      have stay : ¬ (bs l[k].1 c' ∧ ¬ bs l[k].2 c') → inR ((k : Int) + 1) ∧ ((∃ (k' c2 : Nat), (k : Int) + 1 = k' ∧ k' ≤ l.length ∧ (c' : Int) = c2 ∧ c2 < 256 ∧ bs c c2 ∧ bs c2 (clF l a) ∧ (again = true → c < c2) ∧ (again = false → c2 = c ∧ ∀ d ∈ l.take k', bs d.1 c → bs d.2 c) ∧ Grow w w23) ∧ l.length - Int.toNat ((k : Int) + 1) < l.length - Int.toNat (k : Int)) := fun hn => by
        refine ⟨by unfold inR; omega, ⟨k + 1, c', by omega, by omega, rfl, hc', hcc, hcl', hgt, fun hf => ?_, g023⟩, by first | omega | (dsimp only; omega)⟩
        obtain ⟨e, h2⟩ := hsame hf
        refine ⟨e, fun d hd => ?_⟩
        rw [List.take_succ_eq_append_getElem hkl] at hd
        rcases List.mem_append.1 hd with hd | hd
        · exact h2 d hd
        · have : d = l[k] := by simpa using hd
          subst this
          rw [e] at hn
          intro h1
          exact Classical.byContradiction fun h3 => hn ⟨h1, h3⟩
      refine condD (fun h0 => ⟨_, hr.cell (j := 1) rfl, condP_i (fun h1 => ⟨_, hr.cell (j := 1) rfl, ?_⟩) fun h1 => stay ?_⟩) fun h0 => stay ?_
      · have h0 := sub_bits.1 ((andNot_zero hd.1 hc').1 h0)
        have h1 : ¬ bs l[k].2 c' := fun h => by
          have := (andNot_zero hd.2 hc').2 (sub_bits.2 h)
          rw [decide_eq_true this] at h1
          cases h1
        have hor : c' ||| l[k].2 < 256 := Nat.or_lt_two_pow (n := 8) hc' hd.2
        have hlt2 : c' < c' ||| l[k].2 := by
          have h2 := Nat.left_le_or (n := c') (m := l[k].2)
          rcases Nat.lt_or_ge c' (c' ||| l[k].2) with h3 | h3
          · exact h3
          · exfalso
            have e : c' ||| l[k].2 = c' := by omega
            exact h1 (e ▸ bs_right c' l[k].2)
        have hle2 : c ≤ c' := by
          have e : c ||| c' = c' := bs_antisymm (bs_or.2 ⟨hcc, bs_refl _⟩) (bs_right _ _)
          rw [← e]
          exact Nat.left_le_or
        refine ⟨by unfold inR; omega, ⟨k + 1, c' ||| l[k].2, by omega, by omega, ?_, hor, hcc.trans (bs_left _ _), bs_or.2 ⟨hcl', ?_⟩, fun _ => by omega, (fun h => by cases h), g023⟩, by first | omega | (dsimp only; omega)⟩
        · rw [iOr_nat (by omega) (by omega)]
        · exact hcl.cl _ (List.getElem_mem hkl) (fun x hx => hcl' x (h0 x hx))
      · have h1 : iAndNot .i64 (l[k].2 : Int) (c' : Int) = 0 := by simpa using h1
        exact fun h => h.2 (sub_bits.1 ((andNot_zero hd.2 hc').1 h1))
      · exact fun h => h0 ((andNot_zero hd.1 hc').2 (sub_bits.2 h.1))
    · have hkl : k = l.length := by omega
      subst hkl
      refine ⟨⟨c', rfl, hc', hac.trans hcc, hcl', fun hf d hd => ?_, g17⟩, ?_⟩
      · obtain ⟨e, h2⟩ := hsame hf
        rw [List.take_length] at h2
        rw [e]
        exact h2 d hd
      · dsimp only
        rw [Int.toNat_natCast, Int.toNat_natCast]
        cases again with
        | true =>
          have := hgt rfl
          simp only [if_true]
          omega
        | false =>
          obtain ⟨e, -⟩ := hsame rfl
          subst e
          simp
  · subst hag
    have : c = clF l a := bs_antisymm hca (hcl.min c hac (hdone rfl))
    rw [this]
/-! ## A copy, and one left out -/
end Go.Proofs.Ytleiddajojgmmaa
