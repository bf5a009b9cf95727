/- Contracts: all attacks of a plain question, by the program. No condition. -/
import Derived.Test.YtmjpnfapjcfejaaSe
namespace Go.Proofs.Ytmjpnfapjcfejaa
open Go Go.RowKit VC
set_option linter.unusedSimpArgs false
set_option linter.unusedVariables false

theorem el_at3 : ElT Try.prog 26 40 3 24 (.agg #[.int .i64 0, .int .i64 0, .int .i64 0]) := ⟨by kernel_rfl, ⟨Try.t40, by kernel_rfl, by kernel_rfl, by kernel_rfl, by kernel_rfl⟩, rfl⟩
abbrev OwnT (w : World) (B : Nat) (v : Value) (l : List At3) : Prop := Own w B 40 3 v l.length (l.flatMap opF)
abbrev SlT (w : World) (v : Value) (l : List At3) : Prop := SlR opF w v l
/-- The sets of variables of the keys. -/
def keysOf (s : List Int) (b : List Atm) : List Nat := b.map fun a => varsL (a.2.take (klS s a.1))
theorem varsOf_get {b : List Atm} {i : Nat} (hi : i < b.length) : (varsOf b).getD i 0 = varsL b[i].2 := by simp [varsOf, List.getD, hi]
theorem keysOf_get {s : List Int} {b : List Atm} {i : Nat} (hi : i < b.length) : (keysOf s b).getD i 0 = varsL (b[i].2.take (klS s b[i].1)) := by simp [keysOf, List.getD, hi]
def depK (V K : List Nat) (k : Nat) : List (Nat × Nat) := (List.range k).map fun i => (K.getD i 0, V.getD i 0)
theorem depK_succ (V K : List Nat) (k : Nat) : depK V K (k + 1) = depK V K k ++ [(K.getD k 0, V.getD k 0)] := by simp [depK, List.range_succ]
theorem depK_len (V K : List Nat) (k : Nat) : (depK V K k).length = k := by simp [depK]
theorem depK_get {V K : List Nat} {k i : Nat} (h : i < (depK V K k).length) : (depK V K k)[i] = (K.getD i 0, V.getD i 0) := by simp [depK]
theorem plus_erase (V K : List Nat) (f a : Nat) : clF ((depK V K V.length).eraseIdx f) a = clF (depsB V K f) a := by
  have hm : ∀ d, d ∈ (depK V K V.length).eraseIdx f ↔ d ∈ depsB V K f := fun d => by
    rw [List.mem_eraseIdx_iff_getElem]
    unfold depsB
    rw [List.mem_map]
    constructor
    · rintro ⟨i, hi, hne, rfl⟩
      rw [depK_get]
      rw [depK_len] at hi
      exact ⟨i, List.mem_filter.2 ⟨List.mem_range.2 hi, decide_eq_true hne⟩, rfl⟩
    · rintro ⟨i, hi, rfl⟩
      obtain ⟨h1, h2⟩ := List.mem_filter.1 hi
      exact ⟨i, by rw [depK_len]; exact List.mem_range.1 h1, of_decide_eq_true h2, depK_get _⟩
  have h1 := clF_is ((depK V K V.length).eraseIdx f) a
  have h2 := clF_is (depsB V K f) a
  exact IsCl.uniq h1 ⟨h2.sub, fun d hd => h2.cl d ((hm d).1 hd), fun t ht hc => h2.min t ht fun d hd => hc d ((hm d).2 hd)⟩
/-- The rounds, step by step. -/
def Rnd (U : Nat → Nat) (n f r g : Nat) : Nat × Nat := roundF (stepR U) (List.range g) (iterF (roundF (stepR U) (List.range n)) r (2 ^ f, U f))
theorem Rnd_succ (U : Nat → Nat) (n f r g : Nat) : Rnd U n f r (g + 1) = stepR U g (Rnd U n f r g) := by
  unfold Rnd
  rw [List.range_succ, roundF_app]
theorem stepR_lt {U : Nat → Nat} {g : Nat} {p : Nat × Nat} (hg : g < 5) (hU : U g < 256) (h : p.1 < 32 ∧ p.2 < 256) : (stepR U g p).1 < 32 ∧ (stepR U g p).2 < 256 := by
  unfold stepR
  split
  · exact ⟨Nat.or_lt_two_pow (n := 5) h.1 (Nat.pow_lt_pow_right (a := 2) (n := 5) (by omega) hg), Nat.or_lt_two_pow (n := 8) h.2 hU⟩
  · exact h
theorem Rnd_lt {U : Nat → Nat} {n f r g : Nat} (hn : n ≤ 5) (hf : f < n) (hg : g ≤ n) (hU : ∀ i, U i < 256) : (Rnd U n f r g).1 < 32 ∧ (Rnd U n f r g).2 < 256 := by
  unfold Rnd
  refine roundF_P (P := fun p : Nat × Nat => p.1 < 32 ∧ p.2 < 256) (fun i hi p h => stepR_lt (by have := List.mem_range.1 hi; omega) (hU i) h) ?_
  exact iterF_P (P := fun p : Nat × Nat => p.1 < 32 ∧ p.2 < 256) (fun i hi p h => stepR_lt (by have := List.mem_range.1 hi; omega) (hU i) h) ⟨Nat.pow_lt_pow_right (a := 2) (n := 5) (by omega) (by omega), hU f⟩ r
theorem rdD {w : World} {v : Value} {l : List (Nat × Nat)} (h : SlD w v l) {i : Nat} {j : Int} (hj : j = (i : Int)) (hi : i < l.length) :
    ∃ (a : Addr) (m c : Nat), v = .slice (some a) m c ∧ ((0 : Int) ≤ j ∧ j < (m : Int)) ∧ w.cell? (Addr.add (a.add (Int.toNat j * 2)) 0) = some (.int .i64 (l[i].1 : Int)) := by
  obtain ⟨a, m, c, e, hb, cs, hl, hcs, rfl⟩ := SlR.rd h spF_len hj (by rw [encD_len]; exact hi) (K := fun cs => cs = spF ((encD l)[i]'(by rw [encD_len]; exact hi))) rfl
  refine ⟨a, m, c, e, hb, hcs 0 _ ?_⟩
  rw [encD_get hi]
  rfl
theorem rdA {w : World} {v : Value} {l : List Atm} (h : SlA w v l) {i : Nat} {j : Int} (hj : j = (i : Int)) (hi : i < l.length) :
    ∃ (a : Addr) (m c : Nat) (u : Value), v = .slice (some a) m c ∧ ((0 : Int) ≤ j ∧ j < (m : Int)) ∧ w.cell? (Addr.add (a.add (Int.toNat j * 2)) 0) = some (.int .i64 l[i].1) ∧ w.cell? (Addr.add (a.add (Int.toNat j * 2)) 1) = some u ∧ SlI w u l[i].2 := by
  obtain ⟨a, m, c, e, hb, cs, hl, hcs, u, rfl, hu⟩ := SlX.rd h hj hi (K := fun cs => ∃ u, cs = [.int .i64 l[i].1, u] ∧ SlI w u l[i].2) fun cs _ hr => hr
  exact ⟨a, m, c, u, e, hb, hcs 0 _ rfl, hcs 1 _ rfl, hu⟩
theorem attacks_c {w : World} {sv hv bv : Value} {s : List Int} {b : List Atm} (hs : SlI w sv s) (sb : SlA w bv b) (hS : okS s = true) (oA : ∀ a ∈ b, okA a = true) (h5 : b.length ≤ 5) (hK : keyB s b = true) :
    Calls Try.prog 23 #[sv, .agg #[hv, bv]] w fun e w' => ∃ v, e = .returned v ∧ OwnT w' w.heap.size v (attR (varsOf b) (keysOf s b)) ∧ Grow w w' := by
  refine f23_calls _ _ ⟨_, rfl, fun w1 hw1 => ?_⟩
  have g1 := alloc_grow hw1
  have s1 := alloc_size hw1
  have hQ := RecV.new hw1
  obtain ⟨V, eV⟩ : ∃ V, V = varsOf b := ⟨_, rfl⟩
  obtain ⟨K, eK⟩ : ∃ K, K = keysOf s b := ⟨_, rfl⟩
  rw [← eV, ← eK]
  have hVl : V.length = b.length := by rw [eV]; simp [varsOf]
  have bT : ∀ a ∈ b, ∀ x ∈ a.2, -9 ≤ x ∧ x ≤ 7 := fun a ha => (okA_iff.1 (oA a ha)).2.2.2.2
  have gV : ∀ {i} (hi : i < b.length), V.getD i 0 = varsL b[i].2 := fun hi => by rw [eV]; exact varsOf_get hi
  have gK : ∀ {i} (hi : i < b.length), K.getD i 0 = varsL (b[i].2.take (klS s b[i].1)) := fun hi => by rw [eK]; exact keysOf_get hi
  have V256 : ∀ i, V.getD i 0 < 256 := fun i => by
    rcases Nat.lt_or_ge i b.length with hi | hi
    · rw [gV hi]; exact varsL_lt (bT _ (List.getElem_mem hi))
    · have : V.getD i 0 = 0 := by simp [List.getD, List.getElem?_eq_none (by omega : V.length ≤ i)]
      omega
  have K256 : ∀ i, K.getD i 0 < 256 := fun i => by
    rcases Nat.lt_or_ge i b.length with hi | hi
    · rw [gK hi]; exact varsL_take (bT _ (List.getElem_mem hi)) _
    · have : K.getD i 0 = 0 := by rw [eK]; simp [keysOf, List.getD, List.getElem?_eq_none (by simp; omega : (b.map fun a => varsL (a.2.take (klS s a.1))).length ≤ i)]
      omega
  have dsm : ∀ k, smallD (depK V K k) := fun k d hd => by
    obtain ⟨i, _, rfl⟩ := List.mem_map.1 hd
    exact ⟨K256 i, V256 i⟩
  refine ⟨_, boxc hw1 1 _ rfl, SlX.ln (sb.gr g1) ?_⟩
  refine ⟨fun all t w' => ∃ k : Nat, t = k ∧ k ≤ b.length ∧ OwnD w' w1.heap.size all (depK V K k) ∧ Grow w1 w', fun _ t _ => b.length - t.toNat, ⟨0, rfl, by omega, Own.nil _ _ _ _, Grow.refl _⟩, ?_⟩
  rintro - all t w12 ⟨k, rfl, hk, hall, g12⟩
  refine condD (fun hlt => ?_) fun hge => ?_
  · have hkl : k < b.length := by omega
    refine locR sb (g1.trans g12) rfl hkl rfl fun w18 u g18 s18 hu hc d => ?_
    have gd : Grow w18 (dr w18 d.1) := (Grow.refl w18).dr d.1
    have g0D := ((g1.trans g12).trans g18).trans gd
    have hcd := hc.grow gd
    have oAk := okA_iff.1 (oA _ (List.getElem_mem hkl))
    obtain ⟨hi, e, h3⟩ := okS_get hS oAk.1 oAk.2.1
    have hkey : klS s b[k].1 ≤ b[k].2.length := by
      have := List.all_eq_true.1 hK _ (List.getElem_mem hkl)
      exact of_decide_eq_true this
    obtain ⟨ua, un, uc, ue, ul, uh, um, ub, hv'⟩ := (hu.grow g0D).upto (i := klS s b[k].1) (k := .i64) (K := fun x => SlI (dr w18 d.1) x (b[k].2.take (klS s b[k].1))) rfl hkey fun v' h => h
    refine ⟨_, hcd.cell (j := 1) rfl, _, hcd.cell (j := 0) rfl, (hs.grow g0D).rd (by omega) hi ?_⟩
    rw [e]
    refine ⟨ua, un, uc, ue, ul, uh, um, ub, _, hcd.cell (j := 1) rfl, (vars7_c hv' fun x hx => bT _ (List.getElem_mem hkl) x (List.mem_of_mem_take hx)).mono ?_⟩
    rintro e w34 ⟨rfl, g34⟩
    refine ⟨_, rfl, g34, (vars7_c (hu.grow (g0D.trans g34)) (bT _ (List.getElem_mem hkl))).mono ?_⟩
    rintro e w37 ⟨rfl, g37⟩
    refine ⟨_, rfl, g37, ?_⟩
    rw [← gK hkl, ← gV hkl]
    refine bs1 el_dep (by omega) (by omega) rfl w37 fun w40 hw40 => ?_
    have g12_37 := ((g18.trans gd).trans g34).trans g37
    have s12 := g12.size
    have s1237 := g12_37.size
    have ho : Own w37 w1.heap.size 75 2 all (encD (depK V K k)).length ((encD (depK V K k)).flatMap spF) := by
      rw [encD_len]
      exact Own.grow hall g12_37
    refine pappR el_dep (by omega) spF_len spF_one (x := ((K.getD k 0 : Int), (V.getD k 0 : Int))) hw40 ho (by omega) (by rw [encD_len, depK_len]; omega) (by omega) fun v' w43 ho2 hf2 => ⟨by unfold inR; omega, ⟨k + 1, by omega, by omega, ?_, ?_⟩, by first | omega | (dsimp only; omega)⟩
    · rw [depK_succ]
      unfold OwnD
      have e1 : encD (depK V K k ++ [(K.getD k 0, V.getD k 0)]) = encD (depK V K k) ++ [((K.getD k 0 : Int), (V.getD k 0 : Int))] := by simp [encD]
      rw [e1, ← encD_len (depK V K k ++ [(K.getD k 0, V.getD k 0)]), e1]
      exact ho2
    · exact ((g12.trans g12_37).trans (alloc_grow hw40)).fr hf2 fun x hx e => by have := (Own.lt hall e.symm).1; omega
  have hkl : k = b.length := by omega
  subst hkl
  have g012 := g1.trans g12
  refine ⟨_, (hQ.grow g12).cell (j := 1) rfl, SlX.ln (sb.gr g012) ?_⟩
  refine ⟨fun out t w' => ∃ f : Nat, t = f ∧ f ≤ b.length ∧ OwnT w' w12.heap.size out (atF V K f) ∧ Grow w12 w', fun _ t _ => b.length - t.toNat, ⟨0, rfl, by omega, Own.nil _ _ _ _, Grow.refl _⟩, ?_⟩
  rintro - out t w53 ⟨f, rfl, hf, hout, g53⟩
  refine condD (fun hlt => ?_) fun hge => ?_
  rotate_left
  · have hfn : f = b.length := by omega
    subst hfn
    refine ⟨_, rfl, ?_, g012.trans g53⟩
    unfold attR
    rw [hVl]
    exact Own.mono hout (by have := g012.size; omega)
  have hfl : f < b.length := by omega
  have hallS : ∀ {w'}, Grow w12 w' → SlD w' all (depK V K b.length) := fun g => SlR.grow hall.sl g
  refine (cloneD_c (hallS g53) (by rw [depK_len]; omega)).mono ?_
  rintro e w54 ⟨u56, rfl, ho54, g54⟩
  refine ⟨_, rfl, by unfold inR; omega, (deleteD_c ho54 (i := f) (by rw [depK_len]; exact hfl) (by rw [depK_len]; omega)).mono ?_⟩
  rintro e w57 ⟨u59, rfl, ho57, f57⟩
  have g57 : Grow w53 w57 := g54.fr f57 fun x hx e => by have := (Own.lt ho54 e.symm).1; omega
  obtain ⟨a60, n61, c62, e60, b60, c60⟩ := rdD (hallS (g53.trans g57)) (j := (f : Int)) rfl (by rw [depK_len]; exact hfl)
  have eKf : ∀ {h : f < (depK V K b.length).length}, (((depK V K b.length)[f]'h).1 : Int) = (K.getD f 0 : Int) := fun {h} => by rw [depK_get]
  rw [eKf] at c60
  have hel : ((depK V K b.length).eraseIdx f).length ≤ 12 := by rw [List.length_eraseIdx, depK_len]; split <;> omega
  refine ⟨_, rfl, a60, n61, c62, e60, b60, _, c60, (ClosureD_c ho57.sl hel (fun d hd => dsm _ d (List.mem_of_mem_eraseIdx hd)) (K256 f)).mono ?_⟩
  rintro e w64 ⟨rfl, g64⟩
  have g5364 := g57.trans g64
  obtain ⟨a68, n69, c70, e68, b68, c68⟩ := rdD (hallS (g53.trans g5364)) (j := (f : Int)) rfl (by rw [depK_len]; exact hfl)
  rw [eKf] at c68
  refine ⟨_, _, rfl, a68, n69, c70, e68, b68, _, c68, (ClosureD_c (hallS (g53.trans g5364)) (by rw [depK_len]; omega) (dsm _) (K256 f)).mono ?_⟩
  rintro e w72 ⟨rfl, g72⟩
  have g5372 := g5364.trans g72
  have g1272 := g53.trans g5372
  have g072 := g012.trans g1272
  have eplus : clF ((depK V K b.length).eraseIdx f) (K.getD f 0) = plusN V K f := by
    have := plus_erase V K f (K.getD f 0)
    rw [hVl] at this
    exact this
  have ewide : clF (depK V K b.length) (K.getD f 0) = wideN V K f := by
    unfold wideN depsA depK
    rw [hVl]
  rw [eplus, ewide]
  have cl256 : ∀ (l : List (Nat × Nat)), smallD l → ∀ a, a < 256 → clF l a < 256 := fun l hl a ha => by
    have hc := clF_is l a
    refine Nat.lt_pow_two_of_testBit (n := 8) _ fun x hx => ?_
    rw [← Bool.not_eq_true]
    intro hb
    have h255 : ∀ {y c : Nat}, c < 256 → c.testBit y = true → (255 : Nat).testBit y = true := fun {y c} hc hy => by
      have e : (255 : Nat) = 2 ^ 8 - 1 := rfl
      rw [e, Nat.testBit_two_pow_sub_one]
      refine decide_eq_true (Nat.lt_of_not_le fun h8 => ?_)
      rw [Nat.testBit_lt_two_pow (Nat.lt_of_lt_of_le hc (Nat.pow_le_pow_right (by omega) h8 : 2 ^ 8 ≤ 2 ^ y))] at hy
      cases hy
    have := hc.min 255 (fun y hy => h255 ha hy) (fun d hd _ y hy => h255 (hl d hd).2 hy) x hb
    have e : (255 : Nat) = 2 ^ 8 - 1 := rfl
    rw [e, Nat.testBit_two_pow_sub_one] at this
    have := of_decide_eq_true this
    omega
  have p256 : plusN V K f < 256 := by
    rw [← eplus]
    exact cl256 _ (fun d hd => dsm _ d (List.mem_of_mem_eraseIdx hd)) _ (K256 f)
  have w256 : wideN V K f < 256 := by
    rw [← ewide]
    exact cl256 _ (dsm _) _ (K256 f)
  obtain ⟨U, eU⟩ : ∃ U, U = UN V K f := ⟨_, rfl⟩
  have U256 : ∀ i, U i < 256 := fun i => by
    rw [eU]
    exact VC.nSub_lt (n := 8) (V256 i)
  have eUi : ∀ i, iAndNot .i64 (V.getD i 0 : Int) (plusN V K f : Int) = (U i : Int) := fun i => by
    rw [iAndNot_nat (by have := V256 i; omega) (by omega), eU]
    rfl
  have hQ72 := hQ.grow (g12.trans g1272)
  obtain ⟨a77, n78, c79, u80, e77, b77, -, c80, hu80⟩ := rdA (sb.gr g072) (j := (f : Int)) rfl hfl
  refine ⟨_, _, rfl, by omega, _, hQ72.cell (j := 1) rfl, a77, n78, c79, e77, b77, u80, c80, _, fun w81 g81 => vars7_c (hu80.grow g81) (bT _ (List.getElem_mem hfl)), fun w85 g85 => ⟨_, (hQ72.grow g85).cell (j := 1) rfl, SlX.ln (sb.gr (g072.trans g85)) ?_⟩⟩
  rw [← gV hfl, eUi f, iShl_one (by omega)]
  have hQ85 := hQ72.grow g85
  have g085 := g072.trans g85
  have lt0 : ∀ r g, g ≤ b.length → (Rnd U b.length f r g).1 < 32 ∧ (Rnd U b.length f r g).2 < 256 := fun r g hg => Rnd_lt h5 hfl hg U256
  refine ⟨fun reached seen t w' => ∃ r : Nat, t = r ∧ r ≤ b.length ∧ reached = ((Rnd U b.length f r 0).1 : Int) ∧ seen = ((Rnd U b.length f r 0).2 : Int) ∧ Grow w85 w', fun _ _ t _ => b.length - t.toNat, ⟨0, rfl, by omega, rfl, rfl, Grow.refl _⟩, ?_⟩
  rintro - reached seen t w96 ⟨r, rfl, hr, rfl, rfl, g96⟩
  refine condD (fun hlt2 => ?_) fun hge2 => ?_
  · refine ⟨_, (hQ85.grow g96).cell (j := 1) rfl, SlX.ln (sb.gr (g085.trans g96)) ?_⟩
    refine ⟨fun reached seen t w' => ∃ g : Nat, t = g ∧ g ≤ b.length ∧ reached = ((Rnd U b.length f r g).1 : Int) ∧ seen = ((Rnd U b.length f r g).2 : Int) ∧ Grow w85 w', fun _ _ t _ => b.length - t.toNat, ⟨0, rfl, by omega, rfl, rfl, g96⟩, ?_⟩
    rintro - reached seen t w107 ⟨g, rfl, hg, rfl, rfl, g107⟩
    refine condD (fun hlt3 => ?_) fun hge3 => ?_
    · have hgl : g < b.length := by omega
      have hlt0 := lt0 r g hg
      refine locR sb (g085.trans g107) rfl hgl rfl fun w113 u g113 s113 hu hc => ⟨_, hc.cell (j := 1) rfl, (vars7_c (hu.grow ((g085.trans g107).trans g113)) (bT _ (List.getElem_mem hgl))).mono ?_⟩
      rintro e w116 ⟨rfl, g116⟩
      refine ⟨_, rfl, ?_⟩
      rw [← gV hgl, eUi g, iAnd_nat (by have := U256 g; omega) (by omega)]
      have hst := Rnd_succ U b.length f r g
      have g85_116 := (g107.trans g113).trans g116
      refine condP_i (fun hne => ?_) fun heq => ?_
      · have hne : U g &&& (Rnd U b.length f r g).2 ≠ 0 := by
          simp at hne
          omega
        unfold stepR at hst
        rw [if_pos hne] at hst
        refine ⟨by omega, by unfold inR; omega, ⟨g + 1, by omega, by omega, ?_, ?_, g85_116⟩, by first | omega | (dsimp only; omega)⟩
        · rw [hst, iShl_one (by omega), iOr_nat (by omega) (by have := Nat.pow_lt_pow_right (a := 2) (n := 5) (by omega) (by omega : g < 5); omega)]
        · rw [hst, iOr_nat (by omega) (by have := U256 g; omega)]
      · have heq : ¬ U g &&& (Rnd U b.length f r g).2 ≠ 0 := by
          simp at heq
          omega
        unfold stepR at hst
        rw [if_neg heq] at hst
        exact ⟨by unfold inR; omega, ⟨g + 1, by omega, by omega, by rw [hst], by rw [hst], g85_116⟩, by first | omega | (dsimp only; omega)⟩
    · have hgn : g = b.length := by omega
      subst hgn
      exact ⟨by unfold inR; omega, ⟨r + 1, by omega, by omega, rfl, rfl, g107⟩, by first | omega | (dsimp only; omega)⟩
  · have hrn : r = b.length := by omega
    subst hrn
    have hreach : ∀ g, attN V K f g = (decide (g ≠ f) && ((Rnd U b.length f b.length 0).1).testBit g) := fun g => by
      unfold attN reachN Rnd
      rw [hVl, ← eU]
      rfl
    have hr32 := (lt0 b.length 0 (by omega)).1
    refine ⟨_, (hQ85.grow g96).cell (j := 1) rfl, SlX.ln (sb.gr (g085.trans g96)) ?_⟩
    have g5396 := (g5372.trans g85).trans g96
    refine ⟨fun out t w' => ∃ g : Nat, t = g ∧ g ≤ b.length ∧ OwnT w' w12.heap.size out (atF V K f ++ atG V K f g) ∧ Grow w12 w', fun _ t _ => b.length - t.toNat, ⟨0, rfl, by omega, by simpa [atG] using Own.grow hout g5396, g53.trans g5396⟩, ?_⟩
    rintro - out2 t w128 ⟨g, rfl, hg, hout2, g128⟩
    refine condD (fun hlt3 => ?_) fun hge3 => ?_
    · have hgl : g < b.length := by omega
      have hsu := atG_succ V K f g
      have skip : attN V K f g = false → inR ((g : Int) + 1) ∧ ((∃ g' : Nat, (g : Int) + 1 = g' ∧ g' ≤ b.length ∧ OwnT w128 w12.heap.size out2 (atF V K f ++ atG V K f g') ∧ Grow w12 w128) ∧ b.length - Int.toNat ((g : Int) + 1) < b.length - Int.toNat (g : Int)) := fun h0 => by
        rw [h0, if_neg (by decide)] at hsu
        exact ⟨by unfold inR; omega, ⟨g + 1, by omega, by omega, by rw [hsu]; exact hout2, g128⟩, by first | omega | (dsimp only; omega)⟩
      refine condD (fun he => skip ?_) fun he => ⟨by omega, condD (fun h0 => skip ?_) fun h0 => ?_⟩
      · have : g = f := by omega
        rw [hreach, this]
        simp
      · have := (bit_zero (by omega)).1 h0
        rw [hreach, this, Bool.and_false]
      · have hb : ((Rnd U b.length f b.length 0).1).testBit g = true := by
          rw [← Bool.not_eq_false]
          exact fun h => h0 ((bit_zero (by omega)).2 h)
        have hat : attN V K f g = true := by
          rw [hreach, hb, Bool.and_true]
          exact decide_eq_true (by omega)
        rw [if_pos hat] at hsu
        obtain ⟨a129, n130, c131, e129, b129, c129⟩ := rdD (hallS g128) (j := (g : Int)) rfl (by rw [depK_len]; exact hgl)
        have eKg : ∀ {h : g < (depK V K b.length).length}, (((depK V K b.length)[g]'h).1 : Int) = (K.getD g 0 : Int) := fun {h} => by rw [depK_get]
        rw [eKg] at c129
        have hst : ∀ z : Int, (z = if strN V K f g = true then 1 else 0) → ∃ v w133, (Instr.buildSlice 26 1 #[(0, (Value.agg #[(Value.int .i64 (f : Int)), (Value.int .i64 (g : Int)), (Value.int .i64 z)]))]).run Try.prog w128 = .ok v w133 ∧ PApp Try.prog 26 26 out2 v w133 fun t w136 => inR ((g : Int) + 1) ∧ ((∃ g' : Nat, (g : Int) + 1 = g' ∧ g' ≤ b.length ∧ OwnT w136 w12.heap.size t (atF V K f ++ atG V K f g') ∧ Grow w12 w136) ∧ b.length - Int.toNat ((g : Int) + 1) < b.length - Int.toNat (g : Int)) := fun z hz => by
          refine bs1 el_at3 (by omega) (by omega) rfl w128 fun w133 hw133 => ?_
          have hlen : (atF V K f ++ atG V K f g).length ≤ 50 := by
            rw [List.length_append]
            have h1 := atF_le V K f
            have h2 := atG_le V K f g
            have h3 : f * V.length ≤ 5 * 5 := Nat.mul_le_mul (by omega) (by omega)
            omega
          refine pappR el_at3 (by omega) opF_len opF_one (x := ((f : Int), (g : Int), z)) hw133 hout2 g128.size (by omega) (by omega) fun v' w136 ho2 hf2 => ⟨by unfold inR; omega, ⟨g + 1, by omega, by omega, ?_, ?_⟩, by first | omega | (dsimp only; omega)⟩
          · rw [hsu, ← List.append_assoc]
            have e : atS V K f g = ((f : Int), (g : Int), z) := by unfold atS; rw [hz]
            rw [e]
            exact ho2
          · exact (g128.trans (alloc_grow hw133)).fr hf2 fun x hx e => by have := (Own.lt hout2 e.symm).1; omega
        refine ⟨a129, n130, c131, e129, b129, _, c129, ?_⟩
        rw [iAndNot_nat (by have := K256 g; omega) (by omega)]
        refine condP_i (fun h1 => hst 1 ?_) fun h1 => hst 0 ?_
        · have : strN V K f g = true := decide_eq_true fun h => by
            rw [h] at h1
            simp at h1
          rw [if_pos this]
        · have : ¬ strN V K f g = true := fun h => of_decide_eq_true h (by rw [Bool.not_eq_false'] at h1; have := of_decide_eq_true h1; omega)
          rw [if_neg this]
    · have hgn : g = b.length := by omega
      subst hgn
      refine ⟨by unfold inR; omega, ⟨f + 1, by omega, by omega, ?_, g128⟩, by first | omega | (dsimp only; omega)⟩
      rw [atF_succ, hVl]
      exact hout2
/-- Attacks. -/
theorem AttacksP_c {w : World} {sv hv bv : Value} {s h : List Int} {b : List Atm} (hs : SlI w sv s) (hh : SlI w hv h) (sb : SlA w bv b) : Calls Try.prog 5 #[sv, .agg #[hv, bv]] w fun e w' => ∃ v, e = .returned (.tuple #[v, .int .i64 (askN s h b)]) ∧ SlT w' v (if askN s h b = 0 then attR (varsOf b) (keysOf s b) else []) ∧ Grow w w' := by
  refine f5_calls _ _ ⟨_, rfl, fun w1 hw1 => ?_⟩
  have g1 := alloc_grow hw1
  have hQ := RecV.new hw1
  refine ⟨[_, _], rfl, hQ.all, (askedN_c (hs.grow g1) (hh.grow g1) (sb.gr g1)).mono ?_⟩
  rintro e w4 ⟨rfl, g4⟩
  have g04 := g1.trans g4
  refine ⟨_, rfl, condP_i (fun hne => ?_) fun h0 => ?_⟩
  · have hne : ¬ askN s h b = 0 := by simpa using hne
    rw [if_neg hne]
    exact ⟨_, rfl, SlR.nil _, g04⟩
  · have h0 : askN s h b = 0 := by simpa using h0
    obtain ⟨o1, o2, o3, o4⟩ := askN_ok h0
    refine ⟨[_, _], rfl, (hQ.grow g4).all, (attacks_c (hs.grow g04) (sb.gr g04) o1 (okQ_all o2) (okQ_len o2).2.1 o3).mono ?_⟩
    rintro e w8 ⟨v, rfl, ho, g8⟩
    rw [if_pos h0, h0]
    exact ⟨_, rfl, _, rfl, Own.slR ho, g04.trans g8⟩
end Go.Proofs.Ytmjpnfapjcfejaa
