/- Contracts: all attacks of a plain question, by the program. No condition. -/
import Derived.Test.YtmjpnfapjcfejaaDoorSe
import Derived.Test.YtmjpnfapjcfejaaDoorRv
import Derived.Test.YtmjpnfapjcfejaaDoorSb
import Derived.Test.YtmjpnfapjcfejaaDoorRi
namespace Go.Proofs.YtmjpnfapjcfejaaDoor
open Go Go.RowKit VC
set_option linter.unusedSimpArgs false
set_option linter.unusedVariables false

theorem el_at3 : ElT Tryd.prog 43 47 3 24 (.agg #[.int .i64 0, .int .i64 0, .int .i64 0]) := ⟨by kernel_rfl, ⟨Tryd.t47, by kernel_rfl, by kernel_rfl, by kernel_rfl, by kernel_rfl⟩, rfl⟩
abbrev OwnT (w : World) (B : Nat) (v : Value) (l : List At3) : Prop := Own w B 47 3 v l.length (l.flatMap opF)
abbrev SlT (w : World) (v : Value) (l : List At3) : Prop := SlR opF w v l
/-- The sets of variables of the keys. -/
def keysOf (s : List Int) (b : List Atm) : List Nat := b.map fun a => varsL (a.2.take (klS s a.1))
theorem varsOf_get {b : List Atm} {i : Nat} (hi : i < b.length) : (varsOf b).getD i 0 = varsL b[i].2 := by simp [varsOf, List.getD, hi]
theorem keysOf_get {s : List Int} {b : List Atm} {i : Nat} (hi : i < b.length) : (keysOf s b).getD i 0 = varsL (b[i].2.take (klS s b[i].1)) := by simp [keysOf, List.getD, hi]
def depK (V K : List Nat) (k : Nat) : List (Nat × Nat) := (List.range k).map fun i => (K.getD i 0, V.getD i 0)
theorem depK_succ (V K : List Nat) (k : Nat) : depK V K (k + 1) = depK V K k ++ [(K.getD k 0, V.getD k 0)] := by simp [depK, List.range_succ]
theorem depK_len (V K : List Nat) (k : Nat) : (depK V K k).length = k := by simp [depK]
theorem depK_get {V K : List Nat} {k i : Nat} (h : i < (depK V K k).length) : (depK V K k)[i] = (K.getD i 0, V.getD i 0) := by simp [depK]
theorem plus_erase (V K : List Nat) (f a : Nat) : clF ((depK V K V.length).eraseIdx f) a = clF (depsB V K f) a := by
  have hm : ∀ d, d ∈ (depK V K V.length).eraseIdx f ↔ d ∈ depsB V K f := fun d => by
    rw [List.mem_eraseIdx_iff_getElem]
    unfold depsB
    rw [List.mem_map]
    constructor
    · rintro ⟨i, hi, hne, rfl⟩
      rw [depK_get]
      rw [depK_len] at hi
      exact ⟨i, List.mem_filter.2 ⟨List.mem_range.2 hi, decide_eq_true hne⟩, rfl⟩
    · rintro ⟨i, hi, rfl⟩
      obtain ⟨h1, h2⟩ := List.mem_filter.1 hi
      exact ⟨i, by rw [depK_len]; exact List.mem_range.1 h1, of_decide_eq_true h2, depK_get _⟩
  have h1 := clF_is ((depK V K V.length).eraseIdx f) a
  have h2 := clF_is (depsB V K f) a
  exact IsCl.uniq h1 ⟨h2.sub, fun d hd => h2.cl d ((hm d).1 hd), fun t ht hc => h2.min t ht fun d hd => hc d ((hm d).2 hd)⟩
/-- The rounds, step by step. -/
def Rnd (U : Nat → Nat) (n f r g : Nat) : Nat × Nat := roundF (stepR U) (List.range g) (iterF (roundF (stepR U) (List.range n)) r (2 ^ f, U f))
theorem Rnd_succ (U : Nat → Nat) (n f r g : Nat) : Rnd U n f r (g + 1) = stepR U g (Rnd U n f r g) := by
  unfold Rnd
  rw [List.range_succ, roundF_app]
theorem stepR_lt {U : Nat → Nat} {g : Nat} {p : Nat × Nat} (hg : g < 5) (hU : U g < 256) (h : p.1 < 32 ∧ p.2 < 256) : (stepR U g p).1 < 32 ∧ (stepR U g p).2 < 256 := by
  unfold stepR
  split
  · exact ⟨Nat.or_lt_two_pow (n := 5) h.1 (Nat.pow_lt_pow_right (a := 2) (n := 5) (by omega) hg), Nat.or_lt_two_pow (n := 8) h.2 hU⟩
  · exact h
theorem Rnd_lt {U : Nat → Nat} {n f r g : Nat} (hn : n ≤ 5) (hf : f < n) (hg : g ≤ n) (hU : ∀ i, U i < 256) : (Rnd U n f r g).1 < 32 ∧ (Rnd U n f r g).2 < 256 := by
  unfold Rnd
  refine roundF_P (P := fun p : Nat × Nat => p.1 < 32 ∧ p.2 < 256) (fun i hi p h => stepR_lt (by have := List.mem_range.1 hi; omega) (hU i) h) ?_
  exact iterF_P (P := fun p : Nat × Nat => p.1 < 32 ∧ p.2 < 256) (fun i hi p h => stepR_lt (by have := List.mem_range.1 hi; omega) (hU i) h) ⟨Nat.pow_lt_pow_right (a := 2) (n := 5) (by omega) (by omega), hU f⟩ r
theorem rdD {w : World} {v : Value} {l : List (Nat × Nat)} (h : SlD w v l) {i : Nat} {j : Int} (hj : j = (i : Int)) (hi : i < l.length) :
    ∃ (a : Addr) (m c : Nat), v = .slice (some a) m c ∧ ((0 : Int) ≤ j ∧ j < (m : Int)) ∧ w.cell? (Addr.add (a.add (Int.toNat j * 2)) 0) = some (.int .i64 (l[i].1 : Int)) := by
  obtain ⟨a, m, c, e, hb, cs, hl, hcs, rfl⟩ := SlR.rd h spF_len hj (by rw [encD_len]; exact hi) (K := fun cs => cs = spF ((encD l)[i]'(by rw [encD_len]; exact hi))) rfl
  refine ⟨a, m, c, e, hb, hcs 0 _ ?_⟩
  rw [encD_get hi]
  rfl
theorem rdA {w : World} {v : Value} {l : List Atm} (h : SlA w v l) {i : Nat} {j : Int} (hj : j = (i : Int)) (hi : i < l.length) :
    ∃ (a : Addr) (m c : Nat) (u : Value), v = .slice (some a) m c ∧ ((0 : Int) ≤ j ∧ j < (m : Int)) ∧ w.cell? (Addr.add (a.add (Int.toNat j * 2)) 0) = some (.int .i64 l[i].1) ∧ w.cell? (Addr.add (a.add (Int.toNat j * 2)) 1) = some u ∧ SlI w u l[i].2 := by
  obtain ⟨a, m, c, e, hb, cs, hl, hcs, u, rfl, hu⟩ := SlX.rd h hj hi (K := fun cs => ∃ u, cs = [.int .i64 l[i].1, u] ∧ SlI w u l[i].2) fun cs _ hr => hr
  exact ⟨a, m, c, u, e, hb, hcs 0 _ rfl, hcs 1 _ rfl, hu⟩
theorem attacks_c {w : World} {sv hv bv : Value} {s : List Int} {b : List Atm} (hs : SlI w sv s) (sb : SlA w bv b) (hS : okS s = true) (oA : ∀ a ∈ b, okA a = true) (h5 : b.length ≤ 5) (hK : keyB s b = true) :
    Calls Tryd.prog 29 #[sv, .agg #[hv, bv]] w fun e w' => ∃ v, e = .returned v ∧ OwnT w' w.heap.size v (attR (varsOf b) (keysOf s b)) ∧ Grow w w' := by
  refine f29_calls _ _ ⟨_, rfl, fun w1 hw1 => ?_⟩
  have g1 := alloc_grow hw1
  have s1 := alloc_size hw1
  have hQ := RecV.new hw1
  obtain ⟨V, eV⟩ : ∃ V, V = varsOf b := ⟨_, rfl⟩
  obtain ⟨K, eK⟩ : ∃ K, K = keysOf s b := ⟨_, rfl⟩
  rw [← eV, ← eK]
  have hVl : V.length = b.length := by rw [eV]; simp [varsOf]
  have bT : ∀ a ∈ b, ∀ x ∈ a.2, -9 ≤ x ∧ x ≤ 7 := fun a ha => (okA_iff.1 (oA a ha)).2.2.2.2
  have gV : ∀ {i} (hi : i < b.length), V.getD i 0 = varsL b[i].2 := fun hi => by rw [eV]; exact varsOf_get hi
  have gK : ∀ {i} (hi : i < b.length), K.getD i 0 = varsL (b[i].2.take (klS s b[i].1)) := fun hi => by rw [eK]; exact keysOf_get hi
  have V256 : ∀ i, V.getD i 0 < 256 := fun i => by
    rcases Nat.lt_or_ge i b.length with hi | hi
    · rw [gV hi]; exact varsL_lt (bT _ (List.getElem_mem hi))
    · have : V.getD i 0 = 0 := by simp [List.getD, List.getElem?_eq_none (by omega : V.length ≤ i)]
      omega
  have K256 : ∀ i, K.getD i 0 < 256 := fun i => by
    rcases Nat.lt_or_ge i b.length with hi | hi
    · rw [gK hi]; exact varsL_take (bT _ (List.getElem_mem hi)) _
    · have : K.getD i 0 = 0 := by rw [eK]; simp [keysOf, List.getD, List.getElem?_eq_none (by simp; omega : (b.map fun a => varsL (a.2.take (klS s a.1))).length ≤ i)]
      omega
  have dsm : ∀ k, smallD (depK V K k) := fun k d hd => by
    obtain ⟨i, _, rfl⟩ := List.mem_map.1 hd
    exact ⟨K256 i, V256 i⟩
  refine ⟨_, boxc hw1 1 _ rfl, SlX.ln (sb.gr g1) ?_⟩
  refine ⟨fun all t w' => ∃ k : Nat, t = k ∧ k ≤ b.length ∧ OwnD w' w1.heap.size all (depK V K k) ∧ Grow w1 w', fun _ t _ => b.length - t.toNat, ⟨0, rfl, by omega, Own.nil _ _ _ _, Grow.refl _⟩, ?_⟩
  rintro - all t w12 ⟨k, rfl, hk, hall, g12⟩
  refine condD (fun hlt => ?_) fun hge => ?_
  · have hkl : k < b.length := by omega
    refine locR sb (g1.trans g12) rfl hkl rfl fun w18 u g18 s18 hu hc d => ?_
    have gd : Grow w18 (dr w18 d.1) := (Grow.refl w18).dr d.1
    have g0D := ((g1.trans g12).trans g18).trans gd
    have hcd := hc.grow gd
    have oAk := okA_iff.1 (oA _ (List.getElem_mem hkl))
    obtain ⟨hi, e, h3⟩ := okS_get hS oAk.1 oAk.2.1
    have hkey : klS s b[k].1 ≤ b[k].2.length := by
      have := List.all_eq_true.1 hK _ (List.getElem_mem hkl)
      exact of_decide_eq_true this
    obtain ⟨ua, un, uc, ue, ul, uh, um, ub, hv'⟩ := (hu.grow g0D).upto (i := klS s b[k].1) (k := .i64) (K := fun x => SlI (dr w18 d.1) x (b[k].2.take (klS s b[k].1))) rfl hkey fun v' h => h
    refine ⟨_, hcd.cell (j := 1) rfl, _, hcd.cell (j := 0) rfl, (hs.grow g0D).rd (by omega) hi ?_⟩
    rw [e]
    refine ⟨ua, un, uc, ue, ul, uh, um, ub, _, hcd.cell (j := 1) rfl, (vars7_c hv' fun x hx => bT _ (List.getElem_mem hkl) x (List.mem_of_mem_take hx)).mono ?_⟩
    rintro e w34 ⟨rfl, g34⟩
    refine ⟨_, rfl, g34, (vars7_c (hu.grow (g0D.trans g34)) (bT _ (List.getElem_mem hkl))).mono ?_⟩
    rintro e w37 ⟨rfl, g37⟩
    refine ⟨_, rfl, g37, ?_⟩
    rw [← gK hkl, ← gV hkl]
    refine bs1 el_dep (by omega) (by omega) rfl w37 fun w40 hw40 => ?_
    have g12_37 := ((g18.trans gd).trans g34).trans g37
    have s12 := g12.size
    have s1237 := g12_37.size
    have ho : Own w37 w1.heap.size 101 2 all (encD (depK V K k)).length ((encD (depK V K k)).flatMap spF) := by
      rw [encD_len]
      exact Own.grow hall g12_37
    refine pappR el_dep (by omega) spF_len spF_one (x := ((K.getD k 0 : Int), (V.getD k 0 : Int))) hw40 ho (by omega) (by rw [encD_len, depK_len]; omega) (by omega) fun v' w43 ho2 hf2 => ⟨by unfold inR; omega, ⟨k + 1, by omega, by omega, ?_, ?_⟩, by first | omega | (dsimp only; omega)⟩
    · rw [depK_succ]
      unfold OwnD
      have e1 : encD (depK V K k ++ [(K.getD k 0, V.getD k 0)]) = encD (depK V K k) ++ [((K.getD k 0 : Int), (V.getD k 0 : Int))] := by simp [encD]
      rw [e1, ← encD_len (depK V K k ++ [(K.getD k 0, V.getD k 0)]), e1]
      exact ho2
    · exact ((g12.trans g12_37).trans (alloc_grow hw40)).fr hf2 fun x hx e => by have := (Own.lt hall e.symm).1; omega
  have hkl : k = b.length := by omega
  subst hkl
  have g012 := g1.trans g12
  refine ⟨_, (hQ.grow g12).cell (j := 1) rfl, SlX.ln (sb.gr g012) ?_⟩
  refine ⟨fun out t w' => ∃ f : Nat, t = f ∧ f ≤ b.length ∧ OwnT w' w12.heap.size out (atF V K f) ∧ Grow w12 w', fun _ t _ => b.length - t.toNat, ⟨0, rfl, by omega, Own.nil _ _ _ _, Grow.refl _⟩, ?_⟩
  rintro - out t w53 ⟨f, rfl, hf, hout, g53⟩
  refine condD (fun hlt => ?_) fun hge => ?_
  rotate_left
  · have hfn : f = b.length := by omega
    subst hfn
    refine ⟨_, rfl, ?_, g012.trans g53⟩
    unfold attR
    rw [hVl]
    exact Own.mono hout (by have := g012.size; omega)
  have hfl : f < b.length := by omega
  have hallS : ∀ {w'}, Grow w12 w' → SlD w' all (depK V K b.length) := fun g => SlR.grow hall.sl g
  refine (cloneD_c (hallS g53) (by rw [depK_len]; omega)).mono ?_
  rintro e w54 ⟨u56, rfl, ho54, g54⟩
  refine ⟨_, rfl, by unfold inR; omega, (deleteD_c ho54 (i := f) (by rw [depK_len]; exact hfl) (by rw [depK_len]; omega)).mono ?_⟩
  rintro e w57 ⟨u59, rfl, ho57, f57⟩
  have g57 : Grow w53 w57 := g54.fr f57 fun x hx e => by have := (Own.lt ho54 e.symm).1; omega
  obtain ⟨a60, n61, c62, e60, b60, c60⟩ := rdD (hallS (g53.trans g57)) (j := (f : Int)) rfl (by rw [depK_len]; exact hfl)
  have eKf : ∀ {h : f < (depK V K b.length).length}, (((depK V K b.length)[f]'h).1 : Int) = (K.getD f 0 : Int) := fun {h} => by rw [depK_get]
  rw [eKf] at c60
  have hel : ((depK V K b.length).eraseIdx f).length ≤ 12 := by rw [List.length_eraseIdx, depK_len]; split <;> omega
  refine ⟨_, rfl, a60, n61, c62, e60, b60, _, c60, (ClosureD_c ho57.sl hel (fun d hd => dsm _ d (List.mem_of_mem_eraseIdx hd)) (K256 f)).mono ?_⟩
  rintro e w64 ⟨rfl, g64⟩
  have g5364 := g57.trans g64
  obtain ⟨a68, n69, c70, e68, b68, c68⟩ := rdD (hallS (g53.trans g5364)) (j := (f : Int)) rfl (by rw [depK_len]; exact hfl)
  rw [eKf] at c68
  refine ⟨_, _, rfl, a68, n69, c70, e68, b68, _, c68, (ClosureD_c (hallS (g53.trans g5364)) (by rw [depK_len]; omega) (dsm _) (K256 f)).mono ?_⟩
  rintro e w72 ⟨rfl, g72⟩
  have g5372 := g5364.trans g72
  have g1272 := g53.trans g5372
  have g072 := g012.trans g1272
  have eplus : clF ((depK V K b.length).eraseIdx f) (K.getD f 0) = plusN V K f := by
    have := plus_erase V K f (K.getD f 0)
    rw [hVl] at this
    exact this
  have ewide : clF (depK V K b.length) (K.getD f 0) = wideN V K f := by
    unfold wideN depsA depK
    rw [hVl]
  rw [eplus, ewide]
  have cl256 : ∀ (l : List (Nat × Nat)), smallD l → ∀ a, a < 256 → clF l a < 256 := fun l hl a ha => by
    have hc := clF_is l a
    refine Nat.lt_pow_two_of_testBit (n := 8) _ fun x hx => ?_
    rw [← Bool.not_eq_true]
    intro hb
    have h255 : ∀ {y c : Nat}, c < 256 → c.testBit y = true → (255 : Nat).testBit y = true := fun {y c} hc hy => by
      have e : (255 : Nat) = 2 ^ 8 - 1 := rfl
      rw [e, Nat.testBit_two_pow_sub_one]
      refine decide_eq_true (Nat.lt_of_not_le fun h8 => ?_)
      rw [Nat.testBit_lt_two_pow (Nat.lt_of_lt_of_le hc (Nat.pow_le_pow_right (by omega) h8 : 2 ^ 8 ≤ 2 ^ y))] at hy
      cases hy
    have := hc.min 255 (fun y hy => h255 ha hy) (fun d hd _ y hy => h255 (hl d hd).2 hy) x hb
    have e : (255 : Nat) = 2 ^ 8 - 1 := rfl
    rw [e, Nat.testBit_two_pow_sub_one] at this
    have := of_decide_eq_true this
    omega
  have p256 : plusN V K f < 256 := by
    rw [← eplus]
    exact cl256 _ (fun d hd => dsm _ d (List.mem_of_mem_eraseIdx hd)) _ (K256 f)
  have w256 : wideN V K f < 256 := by
    rw [← ewide]
    exact cl256 _ (dsm _) _ (K256 f)
  obtain ⟨U, eU⟩ : ∃ U, U = UN V K f := ⟨_, rfl⟩
  have U256 : ∀ i, U i < 256 := fun i => by
    rw [eU]
    exact VC.nSub_lt (n := 8) (V256 i)
  have eUi : ∀ i, iAndNot .i64 (V.getD i 0 : Int) (plusN V K f : Int) = (U i : Int) := fun i => by
    rw [iAndNot_nat (by have := V256 i; omega) (by omega), eU]
    rfl
  have hQ72 := hQ.grow (g12.trans g1272)
  obtain ⟨a77, n78, c79, u80, e77, b77, -, c80, hu80⟩ := rdA (sb.gr g072) (j := (f : Int)) rfl hfl
  refine ⟨_, _, rfl, by omega, _, hQ72.cell (j := 1) rfl, a77, n78, c79, e77, b77, u80, c80, _, fun w81 g81 => vars7_c (hu80.grow g81) (bT _ (List.getElem_mem hfl)), fun w85 g85 => ⟨_, (hQ72.grow g85).cell (j := 1) rfl, SlX.ln (sb.gr (g072.trans g85)) ?_⟩⟩
  rw [← gV hfl, eUi f, iShl_one (by omega)]
  have hQ85 := hQ72.grow g85
  have g085 := g072.trans g85
  have lt0 : ∀ r g, g ≤ b.length → (Rnd U b.length f r g).1 < 32 ∧ (Rnd U b.length f r g).2 < 256 := fun r g hg => Rnd_lt h5 hfl hg U256
  refine ⟨fun reached seen t w' => ∃ r : Nat, t = r ∧ r ≤ b.length ∧ reached = ((Rnd U b.length f r 0).1 : Int) ∧ seen = ((Rnd U b.length f r 0).2 : Int) ∧ Grow w85 w', fun _ _ t _ => b.length - t.toNat, ⟨0, rfl, by omega, rfl, rfl, Grow.refl _⟩, ?_⟩
  rintro - reached seen t w96 ⟨r, rfl, hr, rfl, rfl, g96⟩
  refine condD (fun hlt2 => ?_) fun hge2 => ?_
  · refine ⟨_, (hQ85.grow g96).cell (j := 1) rfl, SlX.ln (sb.gr (g085.trans g96)) ?_⟩
    refine ⟨fun reached seen t w' => ∃ g : Nat, t = g ∧ g ≤ b.length ∧ reached = ((Rnd U b.length f r g).1 : Int) ∧ seen = ((Rnd U b.length f r g).2 : Int) ∧ Grow w85 w', fun _ _ t _ => b.length - t.toNat, ⟨0, rfl, by omega, rfl, rfl, g96⟩, ?_⟩
    rintro - reached seen t w107 ⟨g, rfl, hg, rfl, rfl, g107⟩
    refine condD (fun hlt3 => ?_) fun hge3 => ?_
    · have hgl : g < b.length := by omega
      have hlt0 := lt0 r g hg
      refine locR sb (g085.trans g107) rfl hgl rfl fun w113 u g113 s113 hu hc => ⟨_, hc.cell (j := 1) rfl, (vars7_c (hu.grow ((g085.trans g107).trans g113)) (bT _ (List.getElem_mem hgl))).mono ?_⟩
      rintro e w116 ⟨rfl, g116⟩
      refine ⟨_, rfl, ?_⟩
      rw [← gV hgl, eUi g, iAnd_nat (by have := U256 g; omega) (by omega)]
      have hst := Rnd_succ U b.length f r g
      have g85_116 := (g107.trans g113).trans g116
      refine condP_i (fun hne => ?_) fun heq => ?_
      · have hne : U g &&& (Rnd U b.length f r g).2 ≠ 0 := by
          simp at hne
          omega
        unfold stepR at hst
        rw [if_pos hne] at hst
        refine ⟨by omega, by unfold inR; omega, ⟨g + 1, by omega, by omega, ?_, ?_, g85_116⟩, by first | omega | (dsimp only; omega)⟩
        · rw [hst, iShl_one (by omega), iOr_nat (by omega) (by have := Nat.pow_lt_pow_right (a := 2) (n := 5) (by omega) (by omega : g < 5); omega)]
        · rw [hst, iOr_nat (by omega) (by have := U256 g; omega)]
      · have heq : ¬ U g &&& (Rnd U b.length f r g).2 ≠ 0 := by
          simp at heq
          omega
        unfold stepR at hst
        rw [if_neg heq] at hst
        exact ⟨by unfold inR; omega, ⟨g + 1, by omega, by omega, by rw [hst], by rw [hst], g85_116⟩, by first | omega | (dsimp only; omega)⟩
    · have hgn : g = b.length := by omega
      subst hgn
      exact ⟨by unfold inR; omega, ⟨r + 1, by omega, by omega, rfl, rfl, g107⟩, by first | omega | (dsimp only; omega)⟩
  · have hrn : r = b.length := by omega
    subst hrn
    have hreach : ∀ g, attN V K f g = (decide (g ≠ f) && ((Rnd U b.length f b.length 0).1).testBit g) := fun g => by
      unfold attN reachN Rnd
      rw [hVl, ← eU]
      rfl
    have hr32 := (lt0 b.length 0 (by omega)).1
    refine ⟨_, (hQ85.grow g96).cell (j := 1) rfl, SlX.ln (sb.gr (g085.trans g96)) ?_⟩
    have g5396 := (g5372.trans g85).trans g96
    refine ⟨fun out t w' => ∃ g : Nat, t = g ∧ g ≤ b.length ∧ OwnT w' w12.heap.size out (atF V K f ++ atG V K f g) ∧ Grow w12 w', fun _ t _ => b.length - t.toNat, ⟨0, rfl, by omega, by simpa [atG] using Own.grow hout g5396, g53.trans g5396⟩, ?_⟩
    rintro - out2 t w128 ⟨g, rfl, hg, hout2, g128⟩
    refine condD (fun hlt3 => ?_) fun hge3 => ?_
    · have hgl : g < b.length := by omega
      have hsu := atG_succ V K f g
      have skip : attN V K f g = false → inR ((g : Int) + 1) ∧ ((∃ g' : Nat, (g : Int) + 1 = g' ∧ g' ≤ b.length ∧ OwnT w128 w12.heap.size out2 (atF V K f ++ atG V K f g') ∧ Grow w12 w128) ∧ b.length - Int.toNat ((g : Int) + 1) < b.length - Int.toNat (g : Int)) := fun h0 => by
        rw [h0, if_neg (by decide)] at hsu
        exact ⟨by unfold inR; omega, ⟨g + 1, by omega, by omega, by rw [hsu]; exact hout2, g128⟩, by first | omega | (dsimp only; omega)⟩
      refine condD (fun he => skip ?_) fun he => ⟨by omega, condD (fun h0 => skip ?_) fun h0 => ?_⟩
      · have : g = f := by omega
        rw [hreach, this]
        simp
      · have := (bit_zero (by omega)).1 h0
        rw [hreach, this, Bool.and_false]
      · have hb : ((Rnd U b.length f b.length 0).1).testBit g = true := by
          rw [← Bool.not_eq_false]
          exact fun h => h0 ((bit_zero (by omega)).2 h)
        have hat : attN V K f g = true := by
          rw [hreach, hb, Bool.and_true]
          exact decide_eq_true (by omega)
        rw [if_pos hat] at hsu
        obtain ⟨a129, n130, c131, e129, b129, c129⟩ := rdD (hallS g128) (j := (g : Int)) rfl (by rw [depK_len]; exact hgl)
        have eKg : ∀ {h : g < (depK V K b.length).length}, (((depK V K b.length)[g]'h).1 : Int) = (K.getD g 0 : Int) := fun {h} => by rw [depK_get]
        rw [eKg] at c129
        have hst : ∀ z : Int, (z = if strN V K f g = true then 1 else 0) → ∃ v w133, (Instr.buildSlice 43 1 #[(0, (Value.agg #[(Value.int .i64 (f : Int)), (Value.int .i64 (g : Int)), (Value.int .i64 z)]))]).run Tryd.prog w128 = .ok v w133 ∧ PApp Tryd.prog 43 43 out2 v w133 fun t w136 => inR ((g : Int) + 1) ∧ ((∃ g' : Nat, (g : Int) + 1 = g' ∧ g' ≤ b.length ∧ OwnT w136 w12.heap.size t (atF V K f ++ atG V K f g') ∧ Grow w12 w136) ∧ b.length - Int.toNat ((g : Int) + 1) < b.length - Int.toNat (g : Int)) := fun z hz => by
          refine bs1 el_at3 (by omega) (by omega) rfl w128 fun w133 hw133 => ?_
          have hlen : (atF V K f ++ atG V K f g).length ≤ 50 := by
            rw [List.length_append]
            have h1 := atF_le V K f
            have h2 := atG_le V K f g
            have h3 : f * V.length ≤ 5 * 5 := Nat.mul_le_mul (by omega) (by omega)
            omega
          refine pappR el_at3 (by omega) opF_len opF_one (x := ((f : Int), (g : Int), z)) hw133 hout2 g128.size (by omega) (by omega) fun v' w136 ho2 hf2 => ⟨by unfold inR; omega, ⟨g + 1, by omega, by omega, ?_, ?_⟩, by first | omega | (dsimp only; omega)⟩
          · rw [hsu, ← List.append_assoc]
            have e : atS V K f g = ((f : Int), (g : Int), z) := by unfold atS; rw [hz]
            rw [e]
            exact ho2
          · exact (g128.trans (alloc_grow hw133)).fr hf2 fun x hx e => by have := (Own.lt hout2 e.symm).1; omega
        refine ⟨a129, n130, c131, e129, b129, _, c129, ?_⟩
        rw [iAndNot_nat (by have := K256 g; omega) (by omega)]
        refine condP_i (fun h1 => hst 1 ?_) fun h1 => hst 0 ?_
        · have : strN V K f g = true := decide_eq_true fun h => by
            rw [h] at h1
            simp at h1
          rw [if_pos this]
        · have : ¬ strN V K f g = true := fun h => of_decide_eq_true h (by rw [Bool.not_eq_false'] at h1; have := of_decide_eq_true h1; omega)
          rw [if_neg this]
    · have hgn : g = b.length := by omega
      subst hgn
      refine ⟨by unfold inR; omega, ⟨f + 1, by omega, by omega, ?_, g128⟩, by first | omega | (dsimp only; omega)⟩
      rw [atF_succ, hVl]
      exact hout2
end Go.Proofs.YtmjpnfapjcfejaaDoor

/- Terms of a question that is being rewritten; the first atom by masks; numbers that an atom and a fact give. Of no program. No condition. -/
namespace Go.Proofs.YtmjpnfapjcfejaaDoor
open Go VC
set_option linter.unusedSimpArgs false
set_option linter.unusedVariables false

/-! ## Terms -/
abbrev TAtm := Int × List (Int × Int)
def tmM (m : List Int) (x : Int) : Int × Int := if x < 0 then (0, -x) else if mg m x.toNat ≠ 0 then (0, mg m x.toNat) else (x, 0)
def tsub (m : List Int) (a : Atm) : TAtm := (a.1, a.2.map (tmM m))
def tq (p : Int × Int) : Int := if 0 < p.2 then -1 else p.1
def qryA (a : TAtm) : Atm := (a.1, a.2.map tq)
def PosM (m : List Int) : Prop := ∀ x, 0 ≤ mg m x
def m0 : List Int := [0, 0, 0, 0, 0, 0, 0, 0]
theorem mg_m0 (x : Nat) : mg m0 x = 0 := by
  unfold mg m0
  rcases x with _ | _ | _ | _ | _ | _ | _ | _ | x <;> rfl
theorem posM_m0 : PosM m0 := fun x => by rw [mg_m0]; exact Int.le_refl _
theorem goneN_m0 : goneN m0 = 0 := by decide
theorem tmM_m0 (x : Int) : tmM m0 x = if x < 0 then (0, -x) else (x, 0) := by
  unfold tmM
  rw [mg_m0]
  simp
theorem tq_tm {m : List Int} (hp : PosM m) {x : Int} : tq (tmM m x) = if x < 0 ∨ mg m x.toNat ≠ 0 then -1 else x := by
  unfold tmM
  by_cases h : x < 0
  · rw [if_pos h, if_pos (.inl h), tq, if_pos (by show 0 < -x; omega)]
  · rw [if_neg h]
    by_cases h2 : mg m x.toNat ≠ 0
    · rw [if_pos h2, if_pos (.inr h2), tq, if_pos (by show 0 < mg m x.toNat; have := hp x.toNat; omega)]
    · rw [if_neg h2, if_neg (fun h3 => h3.elim h h2), tq, if_neg (by show ¬ (0 : Int) < 0; omega)]
theorem varsL_q {m : List Int} (hm : m.length = 8) (hp : PosM m) (xs : List Int) : varsL ((xs.map (tmM m)).map tq) = nSub (varsL xs) (goneN m) := Nat.eq_of_testBit_eq fun i => by
  rw [Bool.eq_iff_iff, varsL_bit, nSub_bit, Bool.and_eq_true, Bool.not_eq_true', ← Bool.not_eq_true, goneN_bit hm, varsL_bit, List.map_map, List.mem_map]
  constructor
  · rintro ⟨x, hx, e⟩
    rw [Function.comp, tq_tm hp] at e
    split at e
    · omega
    · rename_i hc
      subst e
      refine ⟨hx, fun hd => hc (.inr ?_)⟩
      rw [Int.toNat_natCast]
      exact hd
  · rintro ⟨hx, hd⟩
    refine ⟨_, hx, ?_⟩
    rw [Function.comp, tq_tm hp, if_neg]
    rintro (h | h)
    · omega
    · rw [Int.toNat_natCast] at h
      exact hd h
section
variable {s : List Int} {atoms : List Atm} {m : List Int}
theorem varsOf_q (hm : m.length = 8) (hp : PosM m) : varsOf ((atoms.map (tsub m)).map qryA) = atoms.map (VM m) := by
  unfold varsOf
  rw [List.map_map, List.map_map]
  refine List.map_congr_left fun a _ => ?_
  show varsL ((a.2.map (tmM m)).map tq) = _
  rw [varsL_q hm hp]
  rfl
theorem keysOf_q (hm : m.length = 8) (hp : PosM m) : keysOf s ((atoms.map (tsub m)).map qryA) = atoms.map (KM (klS s) m) := by
  unfold keysOf
  rw [List.map_map, List.map_map]
  refine List.map_congr_left fun a _ => ?_
  show varsL (((a.2.map (tmM m)).map tq).take (klS s a.1)) = _
  rw [← List.map_take, ← List.map_take, varsL_q hm hp]
  rfl
theorem okA_q (hp : PosM m) (hA : ∀ a ∈ atoms, okA a = true) : ∀ a ∈ (atoms.map (tsub m)).map qryA, okA a = true := fun a ha => by
  rw [List.map_map] at ha
  obtain ⟨b, hb, rfl⟩ := List.mem_map.1 ha
  have h := okA_iff.1 (hA b hb)
  refine okA_iff.2 ⟨h.1, h.2.1, ?_, ?_, fun x hx => ?_⟩
  · simpa [qryA, tsub] using h.2.2.1
  · simpa [qryA, tsub] using h.2.2.2.1
  · have hx : x ∈ (b.2.map (tmM m)).map tq := hx
    rw [List.map_map] at hx
    obtain ⟨y, hy, rfl⟩ := List.mem_map.1 hx
    rw [Function.comp, tq_tm hp]
    have := h.2.2.2.2 y hy
    split <;> omega
theorem keyB_q (hK : keyB s atoms = true) : keyB s ((atoms.map (tsub m)).map qryA) = true := by
  unfold keyB at hK ⊢
  rw [List.all_eq_true] at hK ⊢
  intro a ha
  rw [List.map_map] at ha
  obtain ⟨b, hb, rfl⟩ := List.mem_map.1 ha
  simpa [qryA, tsub] using hK b hb
end
/-! ## The first atom, by masks -/
def hitP (l : List At3) : Nat := l.foldl (fun h e => h ||| 2 ^ e.2.1.toNat) 0
theorem hitP_app (l : List At3) (e : At3) : hitP (l ++ [e]) = hitP l ||| 2 ^ e.2.1.toNat := by simp [hitP]
theorem hitP_go {g : Nat} : ∀ (l : List At3) (a : Nat), (l.foldl (fun h e => h ||| 2 ^ e.2.1.toNat) a).testBit g = true ↔ a.testBit g = true ∨ ∃ e ∈ l, e.2.1.toNat = g
  | [], a => by simp
  | e :: l, a => by
    rw [List.foldl_cons, hitP_go l, bit_or_pow]
    constructor
    · rintro ((h | h) | ⟨x, hx, h⟩)
      · exact .inl h
      · exact .inr ⟨e, List.mem_cons_self .., h.symm⟩
      · exact .inr ⟨x, List.mem_cons_of_mem _ hx, h⟩
    · rintro (h | ⟨x, hx, h⟩)
      · exact .inl (.inl h)
      · rcases List.mem_cons.1 hx with rfl | hx
        · exact .inl (.inr h.symm)
        · exact .inr ⟨x, hx, h⟩
theorem hitP_bit {g : Nat} {l : List At3} : (hitP l).testBit g = true ↔ ∃ e ∈ l, e.2.1.toNat = g := by
  unfold hitP
  rw [hitP_go, Nat.zero_testBit]
  simp
theorem hitR_bit {V K : List Nat} {g : Nat} (hg : g < V.length) : (hitP (attR V K)).testBit g = true ↔ ∃ f, f < V.length ∧ attN V K f g = true := by
  rw [hitP_bit]
  constructor
  · rintro ⟨e, he, h⟩
    obtain ⟨f, g', hf, hg', ha, rfl⟩ := mem_attR.1 he
    have : g' = g := by simpa [atS] using h
    subst this
    exact ⟨f, hf, ha⟩
  · rintro ⟨f, hf, ha⟩
    exact ⟨atS V K f g, mem_attR.2 ⟨f, g, hf, hg, ha, rfl⟩, by simp [atS]⟩
theorem hitP_lt {n : Nat} {l : List At3} (h : ∀ e ∈ l, e.2.1.toNat < n) : hitP l < 2 ^ n := Nat.lt_pow_two_of_testBit _ fun x hx => by
  rw [← Bool.not_eq_true, hitP_bit]
  rintro ⟨e, he, rfl⟩
  have := h e he
  omega
theorem hitR_lt {V K : List Nat} (k : Nat) : hitP ((attR V K).take k) < 2 ^ V.length := hitP_lt fun e he => by
  obtain ⟨f, g, hf, hg, ha, rfl⟩ := mem_attR.1 (List.mem_of_mem_take he)
  simpa [atS] using hg
/-! ## Two atoms that attack each other -/
def mutB (V K : List Nat) : Bool := (List.range V.length).any fun f => (List.range V.length).any fun g => attN V K f g && attN V K g f
theorem mutB_iff {V K : List Nat} : mutB V K = true ↔ mutN V K := by
  unfold mutB mutN
  rw [List.any_eq_true]
  constructor
  · rintro ⟨f, hf, h⟩
    obtain ⟨g, hg, h⟩ := List.any_eq_true.1 h
    rw [Bool.and_eq_true] at h
    exact ⟨f, g, List.mem_range.1 hf, List.mem_range.1 hg, h.1, h.2⟩
  · rintro ⟨f, g, hf, hg, h1, h2⟩
    exact ⟨f, List.mem_range.2 hf, List.any_eq_true.2 ⟨g, List.mem_range.2 hg, by rw [h1, h2]; rfl⟩⟩
/-- An attack among those of a list comes from an atom that is left. -/
theorem any_attR {V K : List Nat} {left i : Nat} : (attR V K).any (fun e => decide (e.2.1 = (i : Int)) && left.testBit e.1.toNat) = true ↔ i < V.length ∧ ∃ f, f < V.length ∧ attN V K f i = true ∧ left.testBit f = true := by
  rw [List.any_eq_true]
  constructor
  · rintro ⟨e, he, h⟩
    obtain ⟨f, g, hf, hg, ha, rfl⟩ := mem_attR.1 he
    rw [Bool.and_eq_true, decide_eq_true_eq] at h
    have h1 : ((g : Nat) : Int) = (i : Int) := h.1
    have : g = i := by omega
    subst this
    exact ⟨hg, f, hf, ha, by simpa [atS] using h.2⟩
  · rintro ⟨hi, f, hf, ha, hb⟩
    exact ⟨_, mem_attR.2 ⟨f, i, hf, hi, ha, rfl⟩, by simp [atS, hb]⟩
/-! ## Numbers that an atom and a fact give -/
/-- A map holds the numbers that m' has beyond those of m. -/
def NewM (kv : List (Int × Value)) (m m' : List Int) : Prop := ∀ x : Nat, getM kv (x : Int) = if mg m x = 0 ∧ mg m' x ≠ 0 then some (.int .i64 (mg m' x)) else none
theorem NewM.nil (m : List Int) : NewM [] m m := fun x => by
  rw [if_neg fun h => h.2 h.1]
  rfl
theorem NewM.upd {kv : List (Int × Value)} {m m' : List Int} (h : NewM kv m m') {y : Nat} (hy : y < m'.length) (h0 : mg m y = 0) {z : Int} (hz : z ≠ 0) : NewM (updM kv (y : Int) (.int .i64 z)) m (m'.set y z) := fun x => by
  rw [getM_upd, mg_set hy]
  by_cases e : x = y
  · subst e
    rw [if_pos rfl, if_pos rfl, if_pos ⟨h0, hz⟩]
  · rw [if_neg (by omega), if_neg e, h x]
theorem tmM_neg {m : List Int} {x : Int} (h : x < 0) : tmM m x = (0, -x) := by rw [tmM, if_pos h]
theorem tmM_num {m : List Int} {x : Int} (h : ¬ x < 0) (h2 : mg m x.toNat ≠ 0) : tmM m x = (0, mg m x.toNat) := by rw [tmM, if_neg h, if_pos h2]
theorem tmM_var {m : List Int} {x : Int} (h : ¬ x < 0) (h2 : mg m x.toNat = 0) : tmM m x = (x, 0) := by rw [tmM, if_neg h, if_neg fun h3 => h3 h2]
theorem tm_new {kv : List (Int × Value)} {m m' : List Int} (h : NewM kv m m') (hk : ∀ x, mg m x ≠ 0 → mg m' x = mg m x) (x : Int) : tmM m' x = if (tmM m x).2 = 0 ∧ (getM kv (tmM m x).1).isSome = true then (0, mg m' x.toNat) else tmM m x := by
  by_cases h1 : x < 0
  · rw [tmM_neg h1, tmM_neg h1, if_neg]
    rintro ⟨h2, -⟩
    dsimp only at h2
    omega
  · have ex : x = ((x.toNat : Nat) : Int) := by omega
    by_cases h2 : mg m x.toNat = 0
    · rw [tmM_var h1 h2]
      have hn := h x.toNat
      rw [← ex] at hn
      by_cases h3 : mg m' x.toNat = 0
      · rw [tmM_var h1 h3, if_neg]
        rintro ⟨-, h4⟩
        dsimp only at h4
        rw [hn, if_neg fun h => h.2 h3] at h4
        cases h4
      · rw [tmM_num h1 h3, if_pos]
        refine ⟨rfl, ?_⟩
        dsimp only
        rw [hn, if_pos ⟨h2, h3⟩]
        rfl
    · have h3 := hk _ h2
      rw [tmM_num h1 h2, tmM_num h1 (by rw [h3]; exact h2), if_neg, h3]
      rintro ⟨h4, -⟩
      exact h2 h4
theorem zip_take_succ : ∀ {xs ys : List Int} {k : Nat} (hx : k < xs.length) (hy : k < ys.length), (xs.take (k + 1)).zip ys = (xs.take k).zip ys ++ [(xs[k], ys[k])]
  | [], _, _, hx, _ => by simp at hx
  | _ :: _, [], _, _, hy => by simp at hy
  | x :: xs, y :: ys, 0, _, _ => by simp
  | x :: xs, y :: ys, k + 1, hx, hy => by
    have := zip_take_succ (xs := xs) (ys := ys) (k := k) (by simpa using hx) (by simpa using hy)
    rw [List.take_succ_cons, List.zip_cons_cons, this, List.take_succ_cons, List.zip_cons_cons, List.cons_append]
    rfl
theorem fitR_take {xs ys m : List Int} {k : Nat} (hx : k < xs.length) (hy : k < ys.length) : fitR (xs.take (k + 1)) ys m = fitP (fitR (xs.take k) ys m) (xs[k], ys[k]) := by
  unfold fitR
  rw [zip_take_succ hx hy, List.foldl_append]
  rfl
theorem fitR_bad {xs ys m : List Int} {k : Nat} (hk : k ≤ xs.length) (h : fitR (xs.take k) ys m = none) : fitR xs ys m = none := by
  have e : xs.zip ys = (xs.take k).zip ys ++ (xs.drop k).zip (ys.drop k) := by
    clear h
    induction k generalizing xs ys with
    | zero => simp
    | succ k ih =>
      cases xs with
      | nil => simp
      | cons x xs =>
        cases ys with
        | nil => simp
        | cons y ys =>
          rw [List.take_succ_cons, List.zip_cons_cons, List.zip_cons_cons, List.drop_succ_cons, List.drop_succ_cons, List.cons_append, ← ih (by simpa using hk)]
  unfold fitR at h ⊢
  rw [e, List.foldl_append, h]
  exact fit_none _
theorem set_mg {m : List Int} {y : Nat} (h : mg m y ≠ 0) : m.set y (mg m y) = m := by
  have hy : y < m.length := by
    rcases Nat.lt_or_ge y m.length with h1 | h1
    · exact h1
    · exact absurd (by simp [mg, List.getD, List.getElem?_eq_none h1]) h
  have : mg m y = m[y] := by simp [mg, List.getD, hy]
  rw [this, List.set_getElem_self]
end Go.Proofs.YtmjpnfapjcfejaaDoor

/- Attacks and closures as the reference finds them, step by step. Of no program. No condition. -/
namespace Go.Proofs.YtmjpnfapjcfejaaDoor
open Go VC
set_option linter.unusedSimpArgs false
set_option linter.unusedVariables false

/-! ## Closures -/
def ClS (l : List (Nat × Nat)) (a r k : Nat) : Nat := roundF stepC (l.take k) (iterF (roundF stepC l) r a)
theorem ClS_succ {l : List (Nat × Nat)} {a r k : Nat} (hk : k < l.length) : ClS l a r (k + 1) = stepC l[k] (ClS l a r k) := by
  unfold ClS
  rw [List.take_succ_eq_append_getElem hk, roundF_app]
theorem ClS_row (l : List (Nat × Nat)) (a r : Nat) : ClS l a r l.length = ClS l a (r + 1) 0 := by
  unfold ClS
  rw [List.take_length]
  rfl
theorem ClS_end (l : List (Nat × Nat)) (a : Nat) : ClS l a l.length 0 = clF l a := rfl
theorem stepC_lt {d : Nat × Nat} {s : Nat} (hd : d.2 < 256) (h : s < 256) : stepC d s < 256 := by
  unfold stepC
  split
  · exact Nat.or_lt_two_pow (n := 8) h hd
  · exact h
theorem ClS_lt {l : List (Nat × Nat)} {a r k : Nat} (hl : smallD l) (ha : a < 256) : ClS l a r k < 256 := by
  unfold ClS
  refine roundF_P (P := fun s => s < 256) (fun d hd s hs => stepC_lt (hl d (List.mem_of_mem_take hd)).2 hs) ?_
  exact iterF_P (P := fun s => s < 256) (fun d hd s hs => stepC_lt (hl d hd).2 hs) ha r
theorem clF_lt {l : List (Nat × Nat)} {a : Nat} (hl : smallD l) (ha : a < 256) : clF l a < 256 := by
  rw [← ClS_end]
  exact ClS_lt hl ha
/-! ## The atoms that are met -/
def MetS (U : Nat → Nat) (n f r i j : Nat) : Nat := roundF (stepM2 U) ((List.range j).map fun j => (i, j)) (roundF (stepM2 U) ((List.range i).flatMap fun i => (List.range n).map fun j => (i, j)) (iterF (roundF (stepM2 U) (pairsN n)) r (2 ^ f)))
theorem MetS_succ (U : Nat → Nat) (n f r i j : Nat) : MetS U n f r i (j + 1) = stepM2 U (i, j) (MetS U n f r i j) := by
  unfold MetS
  rw [List.range_succ, List.map_append]
  exact roundF_app _ _ _
theorem roundF_append {σ ι : Type} (step : ι → σ → σ) (l l' : List ι) (s : σ) : roundF step (l ++ l') s = roundF step l' (roundF step l s) := by simp [roundF]
theorem MetS_row (U : Nat → Nat) (n f r i : Nat) : MetS U n f r i n = MetS U n f r (i + 1) 0 := by
  unfold MetS
  rw [List.range_succ, List.flatMap_append, roundF_append]
  simp [roundF]
theorem MetS_round (U : Nat → Nat) (n f r : Nat) : MetS U n f r n 0 = MetS U n f (r + 1) 0 0 := rfl
theorem MetS_end (U : Nat → Nat) (n f : Nat) : MetS U n f n 0 0 = metN U n f := rfl
theorem stepM2_lt {U : Nat → Nat} {n : Nat} {ij : Nat × Nat} {m : Nat} (hj : ij.2 < n) (h : m < 2 ^ n) : stepM2 U ij m < 2 ^ n := by
  unfold stepM2
  split
  · exact Nat.or_lt_two_pow h (Nat.pow_lt_pow_right (by omega) hj)
  · exact h
theorem MetS_lt {U : Nat → Nat} {n f r i j : Nat} (hf : f < n) (hi : i ≤ n) (hj : j ≤ n) : MetS U n f r i j < 2 ^ n := by
  unfold MetS
  refine roundF_P (P := fun m => m < 2 ^ n) (fun x hx m hm => ?_) (roundF_P (P := fun m => m < 2 ^ n) (fun x hx m hm => ?_) (iterF_P (P := fun m => m < 2 ^ n) (fun x hx m hm => stepM2_lt (mem_pairs.1 hx).2 hm) (Nat.pow_lt_pow_right (by omega) hf) r))
  · obtain ⟨y, hy, rfl⟩ := List.mem_map.1 hx
    exact stepM2_lt (by have := List.mem_range.1 hy; show y < n; omega) hm
  · obtain ⟨y, hy, hx⟩ := List.mem_flatMap.1 hx
    obtain ⟨z, hz, rfl⟩ := List.mem_map.1 hx
    exact stepM2_lt (List.mem_range.1 hz) hm
/-- The atoms that an atom attacks, as a mask. -/
def atkN (V K : List Nat) (f : Nat) : Nat := nSub (metN (UN V K f) V.length f) (2 ^ f)
theorem atkN_bit {V K : List Nat} {f g : Nat} (hf : f < V.length) : (atkN V K f).testBit g = attN V K f g := by
  unfold atkN attN
  rw [nSub_bit, Nat.testBit_two_pow, Bool.eq_iff_iff, Bool.and_eq_true, Bool.and_eq_true, metN_bit hf, reachN_bit hf, decide_eq_true_eq, Bool.not_eq_true', decide_eq_false_iff_not]
  exact ⟨fun h => ⟨fun e => h.2 e.symm, h.1⟩, fun h => ⟨h.2, fun e => h.1 e.symm⟩⟩
theorem atkN_lt {V K : List Nat} {f : Nat} (hf : f < V.length) : atkN V K f < 2 ^ V.length := by
  unfold atkN
  refine nSub_lt ?_
  rw [← MetS_end]
  exact MetS_lt hf (by omega) (by omega)
/-! ## Dependencies, but one -/
/-- Those of the first k atoms, but the atom `but` (-1: none). -/
def depX (V K : List Nat) (but : Int) (k : Nat) : List (Nat × Nat) := ((List.range k).filter fun i : Nat => decide ((i : Int) ≠ but)).map fun i => (K.getD i 0, V.getD i 0)
theorem depX_succ (V K : List Nat) (but : Int) (k : Nat) : depX V K but (k + 1) = if (k : Int) ≠ but then depX V K but k ++ [(K.getD k 0, V.getD k 0)] else depX V K but k := by
  unfold depX
  rw [List.range_succ, List.filter_append, List.map_append]
  by_cases h : (k : Int) ≠ but
  · rw [if_pos h]
    simp [h]
  · rw [if_neg h]
    simp [h]
theorem depX_le (V K : List Nat) (but : Int) (k : Nat) : (depX V K but k).length ≤ k := by
  unfold depX
  rw [List.length_map]
  have := List.length_filter_le (fun i : Nat => decide ((i : Int) ≠ but)) (List.range k)
  rwa [List.length_range] at this
theorem depX_B (V K : List Nat) (f : Nat) : depX V K (f : Int) V.length = depsB V K f := by
  unfold depX depsB
  congr 1
  refine List.filter_congr fun i _ => ?_
  rw [decide_eq_decide]
  omega
/-- The sets of variables of atoms, and of their keys, but those that were replaced. -/
def VG (gone : Nat) (b : List Atm) : List Nat := b.map fun a => nSub (varsL a.2) gone
def KG (s : List Int) (gone : Nat) (b : List Atm) : List Nat := b.map fun a => nSub (varsL (a.2.take (klS s a.1))) gone
theorem nSub_0 (a : Nat) : nSub a 0 = a := Nat.eq_of_testBit_eq fun i => by rw [nSub_bit, Nat.zero_testBit]; simp
theorem VG_0 (b : List Atm) : VG 0 b = varsOf b := by
  unfold VG varsOf
  exact List.map_congr_left fun a _ => nSub_0 _
theorem KG_0 (s : List Int) (b : List Atm) : KG s 0 b = keysOf s b := by
  unfold KG keysOf
  exact List.map_congr_left fun a _ => nSub_0 _
theorem VG_get {gone : Nat} {b : List Atm} {i : Nat} (hi : i < b.length) : (VG gone b).getD i 0 = nSub (varsL b[i].2) gone := by simp [VG, List.getD, hi]
theorem KG_get {s : List Int} {gone : Nat} {b : List Atm} {i : Nat} (hi : i < b.length) : (KG s gone b).getD i 0 = nSub (varsL (b[i].2.take (klS s b[i].1))) gone := by simp [KG, List.getD, hi]
theorem VG_len (gone : Nat) (b : List Atm) : (VG gone b).length = b.length := by simp [VG]
theorem KG_len (s : List Int) (gone : Nat) (b : List Atm) : (KG s gone b).length = b.length := by simp [KG]
theorem VG_lt {gone : Nat} {b : List Atm} (h : ∀ a ∈ b, okA a = true) (i : Nat) : (VG gone b).getD i 0 < 256 := by
  rcases Nat.lt_or_ge i b.length with hi | hi
  · rw [VG_get hi]
    exact VC.nSub_lt (n := 8) (varsL_lt (okA_iff.1 (h _ (List.getElem_mem hi))).2.2.2.2)
  · have : (VG gone b).getD i 0 = 0 := by simp [List.getD, List.getElem?_eq_none (by rw [VG_len]; omega : (VG gone b).length ≤ i)]
    omega
theorem KG_lt {s : List Int} {gone : Nat} {b : List Atm} (h : ∀ a ∈ b, okA a = true) (i : Nat) : (KG s gone b).getD i 0 < 256 := by
  rcases Nat.lt_or_ge i b.length with hi | hi
  · rw [KG_get hi]
    exact VC.nSub_lt (n := 8) (varsL_take (okA_iff.1 (h _ (List.getElem_mem hi))).2.2.2.2 _)
  · have : (KG s gone b).getD i 0 = 0 := by simp [List.getD, List.getElem?_eq_none (by rw [KG_len]; omega : (KG s gone b).length ≤ i)]
    omega
theorem depX_small {V K : List Nat} (hV : ∀ i, V.getD i 0 < 256) (hK : ∀ i, K.getD i 0 < 256) (but : Int) (k : Nat) : smallD (depX V K but k) := fun d hd => by
  obtain ⟨i, _, rfl⟩ := List.mem_map.1 hd
  exact ⟨hK i, hV i⟩
end Go.Proofs.YtmjpnfapjcfejaaDoor

/- Contracts of the reference: keys, closures, attacked atoms, whether a question is keyed and plain. No condition. -/
namespace Go.Proofs.YtmjpnfapjcfejaaDoor
open Go Go.RowKit VC
set_option linter.unusedSimpArgs false
set_option linter.unusedVariables false

theorem refV_c {w : World} {u : Value} {r : Int} {xs : List Int} {gone : Nat} (hu : SlI w u xs) (hx : ∀ x ∈ xs, -9 ≤ x ∧ x ≤ 7) (hg : gone < 256) : Calls Tryd.prog 71 #[.agg #[.int .i64 r, u], .int .i64 (gone : Int)] w (Ret w (.int .i64 (nSub (varsL xs) gone : Nat))) := by
  refine f71_calls _ _ ⟨_, rfl, fun w1 hw1 => ?_⟩
  have g1 := alloc_grow hw1
  refine ⟨[_, _], rfl, (RecV.new hw1).all, (refVars_c (hu.grow g1) hx).mono ?_⟩
  rintro e w4 ⟨rfl, g4⟩
  have := varsL_lt hx
  exact ⟨_, rfl, by rw [iAndNot_nat (by omega) (by omega)], g1.trans g4⟩
theorem refKeyS_c {w : World} {sv u : Value} {s : List Int} {r : Int} {xs : List Int} {gone : Nat} (hs : SlI w sv s) (hS : okS s = true) (h0 : 0 ≤ r) (h5 : r ≤ 5) (hk : klS s r ≤ xs.length) (hu : SlI w u xs) (hx : ∀ x ∈ xs, -9 ≤ x ∧ x ≤ 7) (hg : gone < 256) : Calls Tryd.prog 70 #[sv, .agg #[.int .i64 r, u], .int .i64 (gone : Int)] w (Ret w (.int .i64 (nSub (varsL (xs.take (klS s r))) gone : Nat))) := by
  refine f70_calls _ _ _ ⟨_, rfl, fun w1 hw1 => ?_⟩
  have g1 := alloc_grow hw1
  obtain ⟨hi, e, h3⟩ := okS_get hS h0 h5
  refine ⟨_, boxc hw1 1 _ rfl, _, boxc hw1 0 _ rfl, (hs.grow g1).rd (by omega) hi ?_⟩
  rw [e]
  obtain ⟨ua, un, uc, ue, ul, uh, um, ub, hv'⟩ := (hu.grow g1).upto (i := klS s r) (k := .i64) (K := fun x => SlI w1 x (xs.take (klS s r))) rfl hk fun v' h => h
  have hx2 : ∀ x ∈ xs.take (klS s r), -9 ≤ x ∧ x ≤ 7 := fun x h => hx x (List.mem_of_mem_take h)
  have := varsL_lt hx2
  refine ⟨ua, un, uc, ue, ul, uh, um, ub, hv'.one, _, fun w2 g2 => refVars_c (hv'.grow g2) hx2, fun w3 g3 => ⟨?_, g1.trans g3⟩⟩
  rw [iAndNot_nat (by omega) (by omega)]
/-! ## Closures -/
theorem el_rdep : ElT Tryd.prog 142 143 2 16 (.agg #[.int .i64 0, .int .i64 0]) := ⟨by kernel_rfl, ⟨Tryd.t143, by kernel_rfl, by kernel_rfl, by kernel_rfl, by kernel_rfl⟩, rfl⟩
abbrev OwnE (w : World) (B : Nat) (v : Value) (l : List (Nat × Nat)) : Prop := Own w B 143 2 v l.length ((encD l).flatMap spF)
theorem OwnE.sl {w : World} {B : Nat} {v : Value} {l : List (Nat × Nat)} (h : OwnE w B v l) : SlD w v l := by
  have := Own.slC h
  unfold SlD SlR
  rw [encD_len]
  exact this
theorem refCl_c {w : World} {v : Value} {l : List (Nat × Nat)} {a : Nat} (hs : SlD w v l) (hsm : smallD l) (ha : a < 256) : Calls Tryd.prog 89 #[v, .int .i64 (a : Int)] w (Ret w (.int .i64 (clF l a : Nat))) := by
  refine f89_calls _ _ ?_
  have hle := SlR.len_le hs
  rw [encD_len] at hle
  refine SlR.ln hs ?_
  rw [encD_len]
  refine ⟨fun set t w' => ∃ r : Nat, t = r ∧ r ≤ l.length ∧ set = (ClS l a r 0 : Nat) ∧ Grow w w', fun _ t _ => l.length - t.toNat, ⟨0, rfl, by omega, rfl, Grow.refl _⟩, ?_⟩
  rintro - set t w9 ⟨r, rfl, hr, rfl, g9⟩
  refine condD (fun hlt => ?_) fun hge => ?_
  · refine SlR.ln (SlR.grow hs g9) ?_
    rw [encD_len]
    refine ⟨fun set t w' => ∃ k : Nat, t = k ∧ k ≤ l.length ∧ set = (ClS l a r k : Nat) ∧ Grow w w', fun _ t _ => l.length - t.toNat, ⟨0, rfl, by omega, rfl, g9⟩, ?_⟩
    rintro - set t w18 ⟨k, rfl, hk, rfl, g18⟩
    have hc : ClS l a r k < 256 := ClS_lt hsm ha
    refine condD (fun hlt2 => ?_) fun hge2 => ?_
    · have hkl : k < l.length := by omega
      have hd := hsm _ (List.getElem_mem hkl)
      refine locD hs g18 rfl hkl rfl fun w24 g24 s24 hr2 => ⟨_, hr2.cell (j := 0) rfl, ?_⟩
      have hst := ClS_succ (a := a) (r := r) hkl
      unfold stepC at hst
      refine condD (fun h0 => ?_) fun h0 => ?_
      · have h0 := nSub_zero.2 (sub_bits.1 ((andNot_zero hd.1 hc).1 h0))
        rw [if_pos h0] at hst
        refine ⟨_, hr2.cell (j := 1) rfl, by unfold inR; omega, ⟨k + 1, by omega, by omega, ?_, g18.trans g24⟩, by first | omega | (dsimp only; omega)⟩
        rw [hst, iOr_nat (by omega) (by omega)]
      · have h0 : ¬ nSub l[k].1 (ClS l a r k) = 0 := fun h => h0 ((andNot_zero hd.1 hc).2 (sub_bits.2 (nSub_zero.1 h)))
        rw [if_neg h0] at hst
        exact ⟨by unfold inR; omega, ⟨k + 1, by omega, by omega, by rw [hst], g18.trans g24⟩, by first | omega | (dsimp only; omega)⟩
    · have hkl : k = l.length := by omega
      subst hkl
      exact ⟨by unfold inR; omega, ⟨r + 1, by omega, by omega, by rw [ClS_row], g18⟩, by first | omega | (dsimp only; omega)⟩
  · have hrl : r = l.length := by omega
    subst hrl
    exact ⟨by rw [ClS_end], g9⟩
section
variable {s : List Int} {b : List Atm}
theorem key_le (hK : keyB s b = true) {k : Nat} (hk : k < b.length) : klS s b[k].1 ≤ b[k].2.length := of_decide_eq_true (List.all_eq_true.1 hK _ (List.getElem_mem hk))
theorem closureR_c {w : World} {sv bv : Value} {gone a : Nat} {but : Int} (hs : SlI w sv s) (sb : SlA w bv b) (hS : okS s = true) (oA : ∀ a ∈ b, okA a = true) (h5 : b.length ≤ 5) (hK : keyB s b = true) (hg : gone < 256) (ha : a < 256) :
    Calls Tryd.prog 69 #[sv, bv, .int .i64 but, .int .i64 (gone : Int), .int .i64 (a : Int)] w (Ret w (.int .i64 (clF (depX (VG gone b) (KG s gone b) but b.length) a : Nat))) := by
  refine f69_calls _ _ _ _ _ ?_
  have hV := VG_lt (gone := gone) oA
  have hKG := KG_lt (s := s) (gone := gone) oA
  have bT : ∀ a ∈ b, ∀ x ∈ a.2, -9 ≤ x ∧ x ≤ 7 := fun a ha => (okA_iff.1 (oA a ha)).2.2.2.2
  refine SlX.ln sb ⟨fun l t w' => ∃ k : Nat, t = k ∧ k ≤ b.length ∧ OwnE w' w.heap.size l (depX (VG gone b) (KG s gone b) but k) ∧ Grow w w', fun _ t _ => b.length - t.toNat, ⟨0, rfl, by omega, Own.nil _ _ _ _, Grow.refl _⟩, ?_⟩
  rintro - l t w9 ⟨k, rfl, hk, hl, g9⟩
  refine condD (fun hlt => ?_) fun hge => ?_
  · have hkl : k < b.length := by omega
    have oAk := okA_iff.1 (oA _ (List.getElem_mem hkl))
    refine locR sb g9 rfl hkl rfl fun w15 u g15 s15 hu hc => ?_
    have hst := depX_succ (VG gone b) (KG s gone b) but k
    refine condP_i (fun hne => ?_) fun heq => ?_
    · have hne : (k : Int) ≠ but := by simpa using hne
      rw [if_pos hne] at hst
      intro d
      have gd : Grow w15 (dr w15 d.1) := (Grow.refl w15).dr d.1
      have g0D := (g9.trans g15).trans gd
      have hcd := hc.grow gd
      refine ⟨[_, _], rfl, hcd.all, [_, _], rfl, hcd.all, (refKeyS_c (hs.grow g0D) hS oAk.1 oAk.2.1 (key_le hK hkl) (hu.grow g0D) (bT _ (List.getElem_mem hkl)) hg).mono ?_⟩
      rintro e w20 ⟨rfl, g20⟩
      refine ⟨_, rfl, g20, (refV_c (hu.grow (g0D.trans g20)) (bT _ (List.getElem_mem hkl)) hg).mono ?_⟩
      rintro e w23 ⟨rfl, g23⟩
      refine ⟨_, rfl, g23, ?_⟩
      rw [← KG_get hkl, ← VG_get hkl]
      have g9_23 := ((g15.trans gd).trans g20).trans g23
      refine bs1 el_rdep (by omega) (by omega) rfl w23 fun w26 hw26 => ?_
      have s9 := g9.size
      have s923 := g9_23.size
      have hle := depX_le (VG gone b) (KG s gone b) but k
      have ho : Own w23 w.heap.size 143 2 l (encD (depX (VG gone b) (KG s gone b) but k)).length ((encD (depX (VG gone b) (KG s gone b) but k)).flatMap spF) := by
        rw [encD_len]
        exact Own.grow hl g9_23
      refine pappR el_rdep (by omega) spF_len spF_one (x := (((KG s gone b).getD k 0 : Int), ((VG gone b).getD k 0 : Int))) hw26 ho (by omega) (by rw [encD_len]; omega) (by omega) fun v' w29 ho2 hf2 => ⟨by unfold inR; omega, ⟨k + 1, by omega, by omega, ?_, ?_⟩, by first | omega | (dsimp only; omega)⟩
      · rw [hst]
        unfold OwnE
        have e1 : encD (depX (VG gone b) (KG s gone b) but k ++ [((KG s gone b).getD k 0, (VG gone b).getD k 0)]) = encD (depX (VG gone b) (KG s gone b) but k) ++ [(((KG s gone b).getD k 0 : Int), ((VG gone b).getD k 0 : Int))] := by simp [encD]
        rw [← encD_len (depX (VG gone b) (KG s gone b) but k ++ [((KG s gone b).getD k 0, (VG gone b).getD k 0)]), e1]
        exact ho2
      · exact ((g9.trans g9_23).trans (alloc_grow hw26)).fr hf2 fun x hx e => by have := (Own.lt hl e.symm).1; omega
    · have heq : ¬ (k : Int) ≠ but := by simpa using heq
      rw [if_neg heq] at hst
      exact ⟨by unfold inR; omega, ⟨k + 1, by omega, by omega, by rw [hst]; exact Own.grow hl g15, g9.trans g15⟩, by first | omega | (dsimp only; omega)⟩
  · have hkl : k = b.length := by omega
    subst hkl
    refine (refCl_c hl.sl (depX_small hV hKG _ _) ha).mono ?_
    rintro e w30 ⟨rfl, g30⟩
    exact ⟨_, rfl, rfl, g9.trans g30⟩
/-! ## Attacked atoms -/
theorem attackedR_c {w : World} {sv bv : Value} {gone f : Nat} (hs : SlI w sv s) (sb : SlA w bv b) (hS : okS s = true) (oA : ∀ a ∈ b, okA a = true) (h5 : b.length ≤ 5) (hK : keyB s b = true) (hg : gone < 256) (hf : f < b.length) :
    Calls Tryd.prog 40 #[sv, bv, .int .i64 (f : Int), .int .i64 (gone : Int)] w (Ret w (.int .i64 (atkN (VG gone b) (KG s gone b) f : Nat))) := by
  refine f40_calls _ _ _ _ ?_
  obtain ⟨V, eV⟩ : ∃ V, V = VG gone b := ⟨_, rfl⟩
  obtain ⟨K, eK⟩ : ∃ K, K = KG s gone b := ⟨_, rfl⟩
  have hVl : V.length = b.length := by rw [eV, VG_len]
  have hV : ∀ i, V.getD i 0 < 256 := eV ▸ VG_lt oA
  have hKl : ∀ i, K.getD i 0 < 256 := eK ▸ KG_lt oA
  have gV : ∀ {i} (hi : i < b.length), V.getD i 0 = nSub (varsL b[i].2) gone := fun hi => by rw [eV]; exact VG_get hi
  have gK : ∀ {i} (hi : i < b.length), K.getD i 0 = nSub (varsL (b[i].2.take (klS s b[i].1))) gone := fun hi => by rw [eK]; exact KG_get hi
  have bT : ∀ a ∈ b, ∀ x ∈ a.2, -9 ≤ x ∧ x ≤ 7 := fun a ha => (okA_iff.1 (oA a ha)).2.2.2.2
  have oAf := okA_iff.1 (oA _ (List.getElem_mem hf))
  refine SlX.rd (pinR sb (Grow.refl _)) rfl hf fun cs hcl hrr => ?_
  obtain ⟨uf, rfl, huf⟩ := hrr
  refine (refKeyS_c hs hS oAf.1 oAf.2.1 (key_le hK hf) huf (bT _ (List.getElem_mem hf)) hg).mono ?_
  rintro e w5 ⟨rfl, g5⟩
  refine ⟨_, rfl, ?_⟩
  rw [← gK hf]
  refine (closureR_c (but := (f : Int)) (hs.grow g5) (sb.gr g5) hS oA h5 hK hg (hKl f)).mono ?_
  rintro e w8 ⟨rfl, g8⟩
  have g08 := g5.trans g8
  refine ⟨_, rfl, by omega, ?_⟩
  rw [← eV, ← eK]
  have eplus : clF (depX V K (f : Int) b.length) (K.getD f 0) = plusN V K f := by
    rw [← hVl, depX_B]
    rfl
  rw [eplus]
  have p256 : plusN V K f < 256 := by
    rw [← eplus]
    exact clF_lt (depX_small hV hKl _ _) (hKl f)
  obtain ⟨U, eU⟩ : ∃ U, U = UN V K f := ⟨_, rfl⟩
  have Uand : ∀ i j, nSub (V.getD i 0 &&& V.getD j 0) (plusN V K f) = U i &&& U j := fun i j => by
    rw [eU]
    refine Nat.eq_of_testBit_eq fun x => ?_
    unfold UN
    rw [nSub_bit, Nat.testBit_and, Nat.testBit_and, nSub_bit, nSub_bit]
    cases (V.getD i 0).testBit x <;> cases (V.getD j 0).testBit x <;> cases (plusN V K f).testBit x <;> rfl
  have lt32 : ∀ r i j, i ≤ b.length → j ≤ b.length → MetS U b.length f r i j < 32 := fun r i j hi hj => by
    have h1 : MetS U b.length f r i j < 2 ^ b.length := MetS_lt hf hi hj
    have h2 : 2 ^ b.length ≤ 2 ^ 5 := Nat.pow_le_pow_right (by omega) h5
    omega
  refine SlX.ln sb ⟨fun met t w' => ∃ r : Nat, t = r ∧ r ≤ b.length ∧ met = (MetS U b.length f r 0 0 : Nat) ∧ Grow w w', fun _ t _ => b.length - t.toNat, ⟨0, rfl, by omega, ?_, g08⟩, ?_⟩
  · rw [iShl_one (by omega)]
    rfl
  rintro - met t w19 ⟨r, rfl, hr, rfl, g19⟩
  refine condD (fun hlt => ?_) fun hge => ?_
  · refine SlX.ln sb ⟨fun met t w' => ∃ i : Nat, t = i ∧ i ≤ b.length ∧ met = (MetS U b.length f r i 0 : Nat) ∧ Grow w w', fun _ t _ => b.length - t.toNat, ⟨0, rfl, by omega, rfl, g19⟩, ?_⟩
    rintro - met t w28 ⟨i, rfl, hi, rfl, g28⟩
    refine condD (fun hlt2 => ?_) fun hge2 => ?_
    · have hil : i < b.length := by omega
      refine locR sb g28 rfl hil rfl fun w34 u g34 s34 hu hc => ?_
      refine SlX.ln sb ⟨fun met t w' => ∃ j : Nat, t = j ∧ j ≤ b.length ∧ met = (MetS U b.length f r i j : Nat) ∧ Grow w34 w', fun _ t _ => b.length - t.toNat, ⟨0, rfl, by omega, rfl, Grow.refl _⟩, ?_⟩
      rintro - met t w44 ⟨j, rfl, hj, rfl, g44⟩
      have g034 := g28.trans g34
      have g044 := g034.trans g44
      have hlt0 := lt32 r i j hi hj
      have hst := MetS_succ U b.length f r i j
      unfold stepM2 at hst
      refine condD (fun hlt3 => ?_) fun hge3 => ?_
      · have hjl : j < b.length := by omega
        refine locR sb g044 rfl hjl rfl fun w50 u2 g50 s50 hu2 hc2 => ⟨by omega, ?_⟩
        have g050 := g044.trans g50
        have stay : ∀ {w'}, Grow w50 w' → ¬ ((MetS U b.length f r i j).testBit i = true ∧ U i &&& U j ≠ 0) → inR ((j : Int) + 1) ∧ ((∃ j' : Nat, (j : Int) + 1 = j' ∧ j' ≤ b.length ∧ ((MetS U b.length f r i j : Nat) : Int) = (MetS U b.length f r i j' : Nat) ∧ Grow w34 w') ∧ b.length - Int.toNat ((j : Int) + 1) < b.length - Int.toNat (j : Int)) := fun g hn => by
          rw [if_neg hn] at hst
          exact ⟨by unfold inR; omega, ⟨j + 1, by omega, by omega, by rw [hst], (g44.trans g50).trans g⟩, by first | omega | (dsimp only; omega)⟩
        refine condD (fun h1 => ?_) fun h1 w63 g63 => stay g63 ?_
        · have h1 := (bitR (by omega)).1 h1
          refine ⟨[_, _], rfl, (hc.grow (g44.trans g50)).all, _, fun w53 g53 => refV_c (hu.grow (g050.trans g53)) (bT _ (List.getElem_mem hil)) hg, [_, _], rfl, hc2.all, _, fun w58 g58 => refV_c (hu2.grow (g050.trans g58)) (bT _ (List.getElem_mem hjl)) hg, fun w62 g62 => ?_⟩
          rw [← gV hil, ← gV hjl, iAnd_nat (by have := hV i; omega) (by have := hV j; omega), iAndNot_nat (by have := VC.nSub_lt (n := 8) (b := 0) (hV i); have := Nat.and_le_left (n := V.getD i 0) (m := V.getD j 0); have := hV i; omega) (by omega), Uand]
          refine condP_i (fun hne => ?_) fun heq => stay g62 ?_
          · have hne : U i &&& U j ≠ 0 := by
              simp at hne
              omega
            rw [if_pos ⟨h1, hne⟩] at hst
            refine ⟨by omega, by unfold inR; omega, ⟨j + 1, by omega, by omega, ?_, (g44.trans g50).trans g62⟩, by first | omega | (dsimp only; omega)⟩
            rw [hst, iShl_one (by omega), iOr_nat (by omega) (by have := Nat.pow_lt_pow_right (a := 2) (n := 5) (by omega) (by omega : j < 5); omega)]
          · rintro ⟨-, h⟩
            simp at heq
            omega
        · rintro ⟨h, -⟩
          exact h1 ((bitR (by omega)).2 h)
      · have hjn : j = b.length := by omega
        subst hjn
        exact ⟨by unfold inR; omega, ⟨i + 1, by omega, by omega, by rw [MetS_row], g044⟩, by first | omega | (dsimp only; omega)⟩
    · have hin : i = b.length := by omega
      subst hin
      exact ⟨by unfold inR; omega, ⟨r + 1, by omega, by omega, by rw [MetS_round], g28⟩, by first | omega | (dsimp only; omega)⟩
  · have hrn : r = b.length := by omega
    subst hrn
    refine ⟨by omega, ?_, g19⟩
    have := lt32 b.length 0 0 (by omega) (by omega)
    rw [iShl_one (by omega), iAndNot_nat (by omega) (by have := Nat.pow_lt_pow_right (a := 2) (n := 5) (by omega) (by omega : f < 5); omega)]
    unfold atkN
    rw [hVl, ← MetS_end, ← eU]
end
/-! ## Keyed and plain -/
theorem refKeyed_c {w : World} {sv hv bv : Value} {s : List Int} {b : List Atm} (hs : SlI w sv s) (sb : SlA w bv b) (hS : okS s = true) (oA : ∀ a ∈ b, okA a = true) : Calls Tryd.prog 12 #[sv, .agg #[hv, bv]] w (Ret w (.bool (keyB s b))) := by
  refine f12_calls _ _ ⟨_, rfl, fun w1 hw1 => ?_⟩
  have g1 := alloc_grow hw1
  have hle := SlX.len_le sb
  refine ⟨_, boxc hw1 1 _ rfl, SlX.ln (sb.gr g1) ?_⟩
  refine ⟨fun t w' => ∃ k : Nat, t = k ∧ k ≤ b.length ∧ keyB s (b.take k) = true ∧ Grow w w', fun t _ => b.length - t.toNat, ⟨0, rfl, by omega, rfl, g1⟩, ?_⟩
  rintro - t w11 ⟨k, rfl, hk, hok, g11⟩
  refine condD (fun hlt => ?_) fun hge => ?_
  · have hkl : k < b.length := by omega
    have oAk := okA_iff.1 (oA _ (List.getElem_mem hkl))
    obtain ⟨hi, e, h3⟩ := okS_get hS oAk.1 oAk.2.1
    refine locR sb g11 rfl hkl rfl fun w17 u g17 s17 hu hc => ⟨_, hc.cell (j := 1) rfl, hu.ln ⟨_, hc.cell (j := 0) rfl, (hs.grow (g11.trans g17)).rd (by omega) hi fun d => ?_⟩⟩
    have gd : Grow w17 (dr w17 d.1) := (Grow.refl w17).dr d.1
    rw [e]
    refine condD (fun hlt2 => ⟨?_, (g11.trans g17).trans gd⟩) fun hge2 => ⟨by unfold inR; omega, ⟨k + 1, by omega, by omega, ?_, (g11.trans g17).trans gd⟩, by first | omega | (dsimp only; omega)⟩
    · have : keyB s b = false := by
        rw [← Bool.not_eq_true, keyB, List.all_eq_true]
        intro h2
        have := h2 _ (List.getElem_mem hkl)
        rw [decide_eq_true_eq] at this
        omega
      rw [this]
    · rw [keyB, List.take_succ_eq_append_getElem hkl, List.all_append, Bool.and_eq_true]
      exact ⟨hok, by simp; omega⟩
  · have hkl : k = b.length := by omega
    subst hkl
    rw [List.take_length] at hok
    exact ⟨by rw [hok], g11⟩
theorem refPlain_c {w : World} {hv bv : Value} {b : List Atm} (sb : SlA w bv b) : Calls Tryd.prog 14 #[.agg #[hv, bv]] w (Ret w (.bool (plnB b))) := by
  refine f14_calls _ ⟨_, rfl, fun w1 hw1 => ?_⟩
  have g1 := alloc_grow hw1
  have hQ := RecV.new hw1
  have hle := SlX.len_le sb
  refine ⟨_, boxc hw1 1 _ rfl, SlX.ln (sb.gr g1) ?_⟩
  refine ⟨fun t w' => ∃ k : Nat, t = k ∧ k ≤ b.length ∧ plnB (b.take k) = true ∧ Grow w1 w', fun t _ => b.length - t.toNat, ⟨0, rfl, by omega, rfl, Grow.refl _⟩, ?_⟩
  rintro - t w11 ⟨k, rfl, hk, hok, g11⟩
  refine condD (fun hlt => ?_) fun hge => ?_
  · have hkl : k < b.length := by omega
    refine locR sb (g1.trans g11) rfl hkl rfl fun w17 u g17 s17 hu hc => ⟨_, ((hQ.grow g11).grow g17).cell (j := 1) rfl, ?_⟩
    have g017 := (g1.trans g11).trans g17
    obtain ⟨ua, un, uc, ue, ul, uh, um, ub, hv'⟩ := SlX.upto (sb.gr g017) (ik := .i64) (K := fun x => SlA w17 x (b.take k)) rfl (Nat.le_of_lt hkl) fun v' hv' => hv'
    refine ⟨ua, un, uc, ue, ul, uh, um, ub, SlX.ln hv' ?_⟩
    have hsu := plnB_succ hkl
    have hlk : (b.take k).length = k := by rw [List.length_take]; omega
    refine ⟨fun t w' => ∃ j : Nat, t = j ∧ j ≤ k ∧ ((b.take k).take j).any (fun a => decide (a.1 = b[k].1)) = false ∧ Grow w17 w', fun t _ => k - t.toNat, ⟨0, rfl, by omega, rfl, Grow.refl _⟩, ?_⟩
    rintro - t w33 ⟨j, rfl, hj, hno, g33⟩
    rw [hlk]
    refine condD (fun hlt2 => ?_) fun hge2 => ?_
    · have hjl : j < (b.take k).length := by omega
      refine locR hv' g33 rfl hjl rfl fun w39 u2 g39 s39 hu2 hc2 => ⟨_, ((hc.grow g33).grow g39).cell (j := 0) rfl, _, hc2.cell (j := 0) rfl, condD (fun he => ⟨?_, (g017.trans g33).trans g39⟩) fun hne => ⟨by unfold inR; omega, ⟨j + 1, by omega, by omega, ?_, g33.trans g39⟩, by first | omega | (dsimp only; omega)⟩⟩
      · have hbad : (b.take k).any (fun a => decide (a.1 = b[k].1)) = true := List.any_eq_true.2 ⟨_, List.getElem_mem hjl, decide_eq_true he.symm⟩
        rw [plnB_bad (k := k + 1) (by rw [hsu, hbad]; simp)]
      · rw [List.take_succ_eq_append_getElem hjl, List.any_append, hno, Bool.false_or]
        simpa using fun h => hne (by rw [List.getElem_take] ; exact h.symm)
    · have hjk : j = k := by omega
      subst hjk
      rw [List.take_of_length_le (by omega)] at hno
      exact ⟨by unfold inR; omega, ⟨j + 1, by omega, by omega, by rw [hsu, hok, hno]; rfl, (g11.trans g17).trans g33⟩, by first | omega | (dsimp only; omega)⟩
  · have hkl : k = b.length := by omega
    subst hkl
    rw [List.take_length] at hok
    exact ⟨by rw [hok], g1.trans g11⟩
end Go.Proofs.YtmjpnfapjcfejaaDoor
