/- Contracts: all attacks of a plain question, by the program. No condition. -/
import Derived.Test.YtmjpnfapjcfejaaGreatDoorSe
import Derived.Test.YtmjpnfapjcfejaaGreatDoorSc
import Derived.Test.YtmjpnfapjcfejaaGreatDoorRf
import Derived.Test.YtmjpnfapjcfejaaGreatDoorTa
import Derived.Test.YtmjpnfapjcfejaaGreatDoorRl
namespace Go.Proofs.YtmjpnfapjcfejaaGreatDoor
open Go Go.RowKit VC
set_option linter.unusedSimpArgs false
set_option linter.unusedVariables false

theorem el_at3 : ElT Tryz.prog 102 131 3 24 (.agg #[.int .i64 0, .int .i64 0, .int .i64 0]) := ⟨by kernel_rfl, ⟨Tryz.t131, by kernel_rfl, by kernel_rfl, by kernel_rfl, by kernel_rfl⟩, rfl⟩
abbrev OwnT (w : World) (B : Nat) (v : Value) (l : List At3) : Prop := Own w B 131 3 v l.length (l.flatMap opF)
abbrev SlT (w : World) (v : Value) (l : List At3) : Prop := SlR opF w v l
/-- The sets of variables of the keys. -/
def keysOf (s : List Int) (b : List Atm) : List Nat := b.map fun a => varsL (a.2.take (klS s a.1))
theorem varsOf_get {b : List Atm} {i : Nat} (hi : i < b.length) : (varsOf b).getD i 0 = varsL b[i].2 := by simp [varsOf, List.getD, hi]
theorem keysOf_get {s : List Int} {b : List Atm} {i : Nat} (hi : i < b.length) : (keysOf s b).getD i 0 = varsL (b[i].2.take (klS s b[i].1)) := by simp [keysOf, List.getD, hi]
def depK (V K : List Nat) (k : Nat) : List (Nat × Nat) := (List.range k).map fun i => (K.getD i 0, V.getD i 0)
theorem depK_succ (V K : List Nat) (k : Nat) : depK V K (k + 1) = depK V K k ++ [(K.getD k 0, V.getD k 0)] := by simp [depK, List.range_succ]
theorem depK_len (V K : List Nat) (k : Nat) : (depK V K k).length = k := by simp [depK]
theorem depK_get {V K : List Nat} {k i : Nat} (h : i < (depK V K k).length) : (depK V K k)[i] = (K.getD i 0, V.getD i 0) := by simp [depK]
theorem plus_erase (V K : List Nat) (f a : Nat) : clF ((depK V K V.length).eraseIdx f) a = clF (depsB V K f) a := by
  have hm : ∀ d, d ∈ (depK V K V.length).eraseIdx f ↔ d ∈ depsB V K f := fun d => by
    rw [List.mem_eraseIdx_iff_getElem]
    unfold depsB
    rw [List.mem_map]
    constructor
    · rintro ⟨i, hi, hne, rfl⟩
      rw [depK_get]
      rw [depK_len] at hi
      exact ⟨i, List.mem_filter.2 ⟨List.mem_range.2 hi, decide_eq_true hne⟩, rfl⟩
    · rintro ⟨i, hi, rfl⟩
      obtain ⟨h1, h2⟩ := List.mem_filter.1 hi
      exact ⟨i, by rw [depK_len]; exact List.mem_range.1 h1, of_decide_eq_true h2, depK_get _⟩
  have h1 := clF_is ((depK V K V.length).eraseIdx f) a
  have h2 := clF_is (depsB V K f) a
  exact IsCl.uniq h1 ⟨h2.sub, fun d hd => h2.cl d ((hm d).1 hd), fun t ht hc => h2.min t ht fun d hd => hc d ((hm d).2 hd)⟩
/-- The rounds, step by step. -/
def Rnd (U : Nat → Nat) (n f r g : Nat) : Nat × Nat := roundF (stepR U) (List.range g) (iterF (roundF (stepR U) (List.range n)) r (2 ^ f, U f))
theorem Rnd_succ (U : Nat → Nat) (n f r g : Nat) : Rnd U n f r (g + 1) = stepR U g (Rnd U n f r g) := by
  unfold Rnd
  rw [List.range_succ, roundF_app]
theorem stepR_lt {U : Nat → Nat} {g : Nat} {p : Nat × Nat} (hg : g < 5) (hU : U g < 256) (h : p.1 < 32 ∧ p.2 < 256) : (stepR U g p).1 < 32 ∧ (stepR U g p).2 < 256 := by
  unfold stepR
  split
  · exact ⟨Nat.or_lt_two_pow (n := 5) h.1 (Nat.pow_lt_pow_right (a := 2) (n := 5) (by omega) hg), Nat.or_lt_two_pow (n := 8) h.2 hU⟩
  · exact h
theorem Rnd_lt {U : Nat → Nat} {n f r g : Nat} (hn : n ≤ 5) (hf : f < n) (hg : g ≤ n) (hU : ∀ i, U i < 256) : (Rnd U n f r g).1 < 32 ∧ (Rnd U n f r g).2 < 256 := by
  unfold Rnd
  refine roundF_P (P := fun p : Nat × Nat => p.1 < 32 ∧ p.2 < 256) (fun i hi p h => stepR_lt (by have := List.mem_range.1 hi; omega) (hU i) h) ?_
  exact iterF_P (P := fun p : Nat × Nat => p.1 < 32 ∧ p.2 < 256) (fun i hi p h => stepR_lt (by have := List.mem_range.1 hi; omega) (hU i) h) ⟨Nat.pow_lt_pow_right (a := 2) (n := 5) (by omega) (by omega), hU f⟩ r
theorem rdD {w : World} {v : Value} {l : List (Nat × Nat)} (h : SlD w v l) {i : Nat} {j : Int} (hj : j = (i : Int)) (hi : i < l.length) :
    ∃ (a : Addr) (m c : Nat), v = .slice (some a) m c ∧ ((0 : Int) ≤ j ∧ j < (m : Int)) ∧ w.cell? (Addr.add (a.add (Int.toNat j * 2)) 0) = some (.int .i64 (l[i].1 : Int)) := by
  obtain ⟨a, m, c, e, hb, cs, hl, hcs, rfl⟩ := SlR.rd h spF_len hj (by rw [encD_len]; exact hi) (K := fun cs => cs = spF ((encD l)[i]'(by rw [encD_len]; exact hi))) rfl
  refine ⟨a, m, c, e, hb, hcs 0 _ ?_⟩
  rw [encD_get hi]
  rfl
theorem rdA {w : World} {v : Value} {l : List Atm} (h : SlA w v l) {i : Nat} {j : Int} (hj : j = (i : Int)) (hi : i < l.length) :
    ∃ (a : Addr) (m c : Nat) (u : Value), v = .slice (some a) m c ∧ ((0 : Int) ≤ j ∧ j < (m : Int)) ∧ w.cell? (Addr.add (a.add (Int.toNat j * 2)) 0) = some (.int .i64 l[i].1) ∧ w.cell? (Addr.add (a.add (Int.toNat j * 2)) 1) = some u ∧ SlI w u l[i].2 := by
  obtain ⟨a, m, c, e, hb, cs, hl, hcs, u, rfl, hu⟩ := SlX.rd h hj hi (K := fun cs => ∃ u, cs = [.int .i64 l[i].1, u] ∧ SlI w u l[i].2) fun cs _ hr => hr
  exact ⟨a, m, c, u, e, hb, hcs 0 _ rfl, hcs 1 _ rfl, hu⟩
theorem attacks_c {w : World} {sv hv bv : Value} {s : List Int} {b : List Atm} (hs : SlI w sv s) (sb : SlA w bv b) (hS : okS s = true) (oA : ∀ a ∈ b, okA a = true) (h5 : b.length ≤ 5) (hK : keyB s b = true) :
    Calls Tryz.prog 70 #[sv, .agg #[hv, bv]] w fun e w' => ∃ v, e = .returned v ∧ OwnT w' w.heap.size v (attR (varsOf b) (keysOf s b)) ∧ Grow w w' := by
  refine f70_calls _ _ ⟨_, rfl, fun w1 hw1 => ?_⟩
  have g1 := alloc_grow hw1
  have s1 := alloc_size hw1
  have hQ := RecV.new hw1
  obtain ⟨V, eV⟩ : ∃ V, V = varsOf b := ⟨_, rfl⟩
  obtain ⟨K, eK⟩ : ∃ K, K = keysOf s b := ⟨_, rfl⟩
  rw [← eV, ← eK]
  have hVl : V.length = b.length := by rw [eV]; simp [varsOf]
  have bT : ∀ a ∈ b, ∀ x ∈ a.2, -9 ≤ x ∧ x ≤ 7 := fun a ha => (okA_iff.1 (oA a ha)).2.2.2.2
  have gV : ∀ {i} (hi : i < b.length), V.getD i 0 = varsL b[i].2 := fun hi => by rw [eV]; exact varsOf_get hi
  have gK : ∀ {i} (hi : i < b.length), K.getD i 0 = varsL (b[i].2.take (klS s b[i].1)) := fun hi => by rw [eK]; exact keysOf_get hi
  have V256 : ∀ i, V.getD i 0 < 256 := fun i => by
    rcases Nat.lt_or_ge i b.length with hi | hi
    · rw [gV hi]; exact varsL_lt (bT _ (List.getElem_mem hi))
    · have : V.getD i 0 = 0 := by simp [List.getD, List.getElem?_eq_none (by omega : V.length ≤ i)]
      omega
  have K256 : ∀ i, K.getD i 0 < 256 := fun i => by
    rcases Nat.lt_or_ge i b.length with hi | hi
    · rw [gK hi]; exact varsL_take (bT _ (List.getElem_mem hi)) _
    · have : K.getD i 0 = 0 := by rw [eK]; simp [keysOf, List.getD, List.getElem?_eq_none (by simp; omega : (b.map fun a => varsL (a.2.take (klS s a.1))).length ≤ i)]
      omega
  have dsm : ∀ k, smallD (depK V K k) := fun k d hd => by
    obtain ⟨i, _, rfl⟩ := List.mem_map.1 hd
    exact ⟨K256 i, V256 i⟩
  refine ⟨_, boxc hw1 1 _ rfl, SlX.ln (sb.gr g1) ?_⟩
  refine ⟨fun all t w' => ∃ k : Nat, t = k ∧ k ≤ b.length ∧ OwnD w' w1.heap.size all (depK V K k) ∧ Grow w1 w', fun _ t _ => b.length - t.toNat, ⟨0, rfl, by omega, Own.nil _ _ _ _, Grow.refl _⟩, ?_⟩
  rintro - all t w12 ⟨k, rfl, hk, hall, g12⟩
  refine condD (fun hlt => ?_) fun hge => ?_
  · have hkl : k < b.length := by omega
    refine locR sb (g1.trans g12) rfl hkl rfl fun w18 u g18 s18 hu hc d => ?_
    have gd : Grow w18 (dr w18 d.1) := (Grow.refl w18).dr d.1
    have g0D := ((g1.trans g12).trans g18).trans gd
    have hcd := hc.grow gd
    have oAk := okA_iff.1 (oA _ (List.getElem_mem hkl))
    obtain ⟨hi, e, h3⟩ := okS_get hS oAk.1 oAk.2.1
    have hkey : klS s b[k].1 ≤ b[k].2.length := by
      have := List.all_eq_true.1 hK _ (List.getElem_mem hkl)
      exact of_decide_eq_true this
    obtain ⟨ua, un, uc, ue, ul, uh, um, ub, hv'⟩ := (hu.grow g0D).upto (i := klS s b[k].1) (k := .i64) (K := fun x => SlI (dr w18 d.1) x (b[k].2.take (klS s b[k].1))) rfl hkey fun v' h => h
    refine ⟨_, hcd.cell (j := 1) rfl, _, hcd.cell (j := 0) rfl, (hs.grow g0D).rd (by omega) hi ?_⟩
    rw [e]
    refine ⟨ua, un, uc, ue, ul, uh, um, ub, _, hcd.cell (j := 1) rfl, (vars7_c hv' fun x hx => bT _ (List.getElem_mem hkl) x (List.mem_of_mem_take hx)).mono ?_⟩
    rintro e w34 ⟨rfl, g34⟩
    refine ⟨_, rfl, g34, (vars7_c (hu.grow (g0D.trans g34)) (bT _ (List.getElem_mem hkl))).mono ?_⟩
    rintro e w37 ⟨rfl, g37⟩
    refine ⟨_, rfl, g37, ?_⟩
    rw [← gK hkl, ← gV hkl]
    refine bs1 el_dep (by omega) (by omega) rfl w37 fun w40 hw40 => ?_
    have g12_37 := ((g18.trans gd).trans g34).trans g37
    have s12 := g12.size
    have s1237 := g12_37.size
    have ho : Own w37 w1.heap.size 135 2 all (encD (depK V K k)).length ((encD (depK V K k)).flatMap spF) := by
      rw [encD_len]
      exact Own.grow hall g12_37
    refine pappR el_dep (by omega) spF_len spF_one (x := ((K.getD k 0 : Int), (V.getD k 0 : Int))) hw40 ho (by omega) (by rw [encD_len, depK_len]; omega) (by omega) fun v' w43 ho2 hf2 => ⟨by unfold inR; omega, ⟨k + 1, by omega, by omega, ?_, ?_⟩, by first | omega | (dsimp only; omega)⟩
    · rw [depK_succ]
      unfold OwnD
      have e1 : encD (depK V K k ++ [(K.getD k 0, V.getD k 0)]) = encD (depK V K k) ++ [((K.getD k 0 : Int), (V.getD k 0 : Int))] := by simp [encD]
      rw [e1, ← encD_len (depK V K k ++ [(K.getD k 0, V.getD k 0)]), e1]
      exact ho2
    · exact ((g12.trans g12_37).trans (alloc_grow hw40)).fr hf2 fun x hx e => by have := (Own.lt hall e.symm).1; omega
  have hkl : k = b.length := by omega
  subst hkl
  have g012 := g1.trans g12
  refine ⟨_, (hQ.grow g12).cell (j := 1) rfl, SlX.ln (sb.gr g012) ?_⟩
  refine ⟨fun out t w' => ∃ f : Nat, t = f ∧ f ≤ b.length ∧ OwnT w' w12.heap.size out (atF V K f) ∧ Grow w12 w', fun _ t _ => b.length - t.toNat, ⟨0, rfl, by omega, Own.nil _ _ _ _, Grow.refl _⟩, ?_⟩
  rintro - out t w53 ⟨f, rfl, hf, hout, g53⟩
  refine condD (fun hlt => ?_) fun hge => ?_
  rotate_left
  · have hfn : f = b.length := by omega
    subst hfn
    refine ⟨_, rfl, ?_, g012.trans g53⟩
    unfold attR
    rw [hVl]
    exact Own.mono hout (by have := g012.size; omega)
  have hfl : f < b.length := by omega
  have hallS : ∀ {w'}, Grow w12 w' → SlD w' all (depK V K b.length) := fun g => SlR.grow hall.sl g
  refine (cloneD_c (hallS g53) (by rw [depK_len]; omega)).mono ?_
  rintro e w54 ⟨u56, rfl, ho54, g54⟩
  refine ⟨_, rfl, by unfold inR; omega, (deleteD_c ho54 (i := f) (by rw [depK_len]; exact hfl) (by rw [depK_len]; omega)).mono ?_⟩
  rintro e w57 ⟨u59, rfl, ho57, f57⟩
  have g57 : Grow w53 w57 := g54.fr f57 fun x hx e => by have := (Own.lt ho54 e.symm).1; omega
  obtain ⟨a60, n61, c62, e60, b60, c60⟩ := rdD (hallS (g53.trans g57)) (j := (f : Int)) rfl (by rw [depK_len]; exact hfl)
  have eKf : ∀ {h : f < (depK V K b.length).length}, (((depK V K b.length)[f]'h).1 : Int) = (K.getD f 0 : Int) := fun {h} => by rw [depK_get]
  rw [eKf] at c60
  have hel : ((depK V K b.length).eraseIdx f).length ≤ 12 := by rw [List.length_eraseIdx, depK_len]; split <;> omega
  refine ⟨_, rfl, a60, n61, c62, e60, b60, _, c60, (ClosureD_c ho57.sl hel (fun d hd => dsm _ d (List.mem_of_mem_eraseIdx hd)) (K256 f)).mono ?_⟩
  rintro e w64 ⟨rfl, g64⟩
  have g5364 := g57.trans g64
  obtain ⟨a68, n69, c70, e68, b68, c68⟩ := rdD (hallS (g53.trans g5364)) (j := (f : Int)) rfl (by rw [depK_len]; exact hfl)
  rw [eKf] at c68
  refine ⟨_, _, rfl, a68, n69, c70, e68, b68, _, c68, (ClosureD_c (hallS (g53.trans g5364)) (by rw [depK_len]; omega) (dsm _) (K256 f)).mono ?_⟩
  rintro e w72 ⟨rfl, g72⟩
  have g5372 := g5364.trans g72
  have g1272 := g53.trans g5372
  have g072 := g012.trans g1272
  have eplus : clF ((depK V K b.length).eraseIdx f) (K.getD f 0) = plusN V K f := by
    have := plus_erase V K f (K.getD f 0)
    rw [hVl] at this
    exact this
  have ewide : clF (depK V K b.length) (K.getD f 0) = wideN V K f := by
    unfold wideN depsA depK
    rw [hVl]
  rw [eplus, ewide]
  have cl256 : ∀ (l : List (Nat × Nat)), smallD l → ∀ a, a < 256 → clF l a < 256 := fun l hl a ha => by
    have hc := clF_is l a
    refine Nat.lt_pow_two_of_testBit (n := 8) _ fun x hx => ?_
    rw [← Bool.not_eq_true]
    intro hb
    have h255 : ∀ {y c : Nat}, c < 256 → c.testBit y = true → (255 : Nat).testBit y = true := fun {y c} hc hy => by
      have e : (255 : Nat) = 2 ^ 8 - 1 := rfl
      rw [e, Nat.testBit_two_pow_sub_one]
      refine decide_eq_true (Nat.lt_of_not_le fun h8 => ?_)
      rw [Nat.testBit_lt_two_pow (Nat.lt_of_lt_of_le hc (Nat.pow_le_pow_right (by omega) h8 : 2 ^ 8 ≤ 2 ^ y))] at hy
      cases hy
    have := hc.min 255 (fun y hy => h255 ha hy) (fun d hd _ y hy => h255 (hl d hd).2 hy) x hb
    have e : (255 : Nat) = 2 ^ 8 - 1 := rfl
    rw [e, Nat.testBit_two_pow_sub_one] at this
    have := of_decide_eq_true this
    omega
  have p256 : plusN V K f < 256 := by
    rw [← eplus]
    exact cl256 _ (fun d hd => dsm _ d (List.mem_of_mem_eraseIdx hd)) _ (K256 f)
  have w256 : wideN V K f < 256 := by
    rw [← ewide]
    exact cl256 _ (dsm _) _ (K256 f)
  obtain ⟨U, eU⟩ : ∃ U, U = UN V K f := ⟨_, rfl⟩
  have U256 : ∀ i, U i < 256 := fun i => by
    rw [eU]
    exact VC.nSub_lt (n := 8) (V256 i)
  have eUi : ∀ i, iAndNot .i64 (V.getD i 0 : Int) (plusN V K f : Int) = (U i : Int) := fun i => by
    rw [iAndNot_nat (by have := V256 i; omega) (by omega), eU]
    rfl
  have hQ72 := hQ.grow (g12.trans g1272)
  obtain ⟨a77, n78, c79, u80, e77, b77, -, c80, hu80⟩ := rdA (sb.gr g072) (j := (f : Int)) rfl hfl
  refine ⟨_, _, rfl, by omega, _, hQ72.cell (j := 1) rfl, a77, n78, c79, e77, b77, u80, c80, _, fun w81 g81 => vars7_c (hu80.grow g81) (bT _ (List.getElem_mem hfl)), fun w85 g85 => ⟨_, (hQ72.grow g85).cell (j := 1) rfl, SlX.ln (sb.gr (g072.trans g85)) ?_⟩⟩
  rw [← gV hfl, eUi f, iShl_one (by omega)]
  have hQ85 := hQ72.grow g85
  have g085 := g072.trans g85
  have lt0 : ∀ r g, g ≤ b.length → (Rnd U b.length f r g).1 < 32 ∧ (Rnd U b.length f r g).2 < 256 := fun r g hg => Rnd_lt h5 hfl hg U256
  refine ⟨fun reached seen t w' => ∃ r : Nat, t = r ∧ r ≤ b.length ∧ reached = ((Rnd U b.length f r 0).1 : Int) ∧ seen = ((Rnd U b.length f r 0).2 : Int) ∧ Grow w85 w', fun _ _ t _ => b.length - t.toNat, ⟨0, rfl, by omega, rfl, rfl, Grow.refl _⟩, ?_⟩
  rintro - reached seen t w96 ⟨r, rfl, hr, rfl, rfl, g96⟩
  refine condD (fun hlt2 => ?_) fun hge2 => ?_
  · refine ⟨_, (hQ85.grow g96).cell (j := 1) rfl, SlX.ln (sb.gr (g085.trans g96)) ?_⟩
    refine ⟨fun reached seen t w' => ∃ g : Nat, t = g ∧ g ≤ b.length ∧ reached = ((Rnd U b.length f r g).1 : Int) ∧ seen = ((Rnd U b.length f r g).2 : Int) ∧ Grow w85 w', fun _ _ t _ => b.length - t.toNat, ⟨0, rfl, by omega, rfl, rfl, g96⟩, ?_⟩
    rintro - reached seen t w107 ⟨g, rfl, hg, rfl, rfl, g107⟩
    refine condD (fun hlt3 => ?_) fun hge3 => ?_
    · have hgl : g < b.length := by omega
      have hlt0 := lt0 r g hg
      refine locR sb (g085.trans g107) rfl hgl rfl fun w113 u g113 s113 hu hc => ⟨_, hc.cell (j := 1) rfl, (vars7_c (hu.grow ((g085.trans g107).trans g113)) (bT _ (List.getElem_mem hgl))).mono ?_⟩
      rintro e w116 ⟨rfl, g116⟩
      refine ⟨_, rfl, ?_⟩
      rw [← gV hgl, eUi g, iAnd_nat (by have := U256 g; omega) (by omega)]
      have hst := Rnd_succ U b.length f r g
      have g85_116 := (g107.trans g113).trans g116
      refine condP_i (fun hne => ?_) fun heq => ?_
      · have hne : U g &&& (Rnd U b.length f r g).2 ≠ 0 := by
          simp at hne
          omega
        unfold stepR at hst
        rw [if_pos hne] at hst
        refine ⟨by omega, by unfold inR; omega, ⟨g + 1, by omega, by omega, ?_, ?_, g85_116⟩, by first | omega | (dsimp only; omega)⟩
        · rw [hst, iShl_one (by omega), iOr_nat (by omega) (by have := Nat.pow_lt_pow_right (a := 2) (n := 5) (by omega) (by omega : g < 5); omega)]
        · rw [hst, iOr_nat (by omega) (by have := U256 g; omega)]
      · have heq : ¬ U g &&& (Rnd U b.length f r g).2 ≠ 0 := by
          simp at heq
          omega
        unfold stepR at hst
        rw [if_neg heq] at hst
        exact ⟨by unfold inR; omega, ⟨g + 1, by omega, by omega, by rw [hst], by rw [hst], g85_116⟩, by first | omega | (dsimp only; omega)⟩
    · have hgn : g = b.length := by omega
      subst hgn
      exact ⟨by unfold inR; omega, ⟨r + 1, by omega, by omega, rfl, rfl, g107⟩, by first | omega | (dsimp only; omega)⟩
  · have hrn : r = b.length := by omega
    subst hrn
    have hreach : ∀ g, attN V K f g = (decide (g ≠ f) && ((Rnd U b.length f b.length 0).1).testBit g) := fun g => by
      unfold attN reachN Rnd
      rw [hVl, ← eU]
      rfl
    have hr32 := (lt0 b.length 0 (by omega)).1
    refine ⟨_, (hQ85.grow g96).cell (j := 1) rfl, SlX.ln (sb.gr (g085.trans g96)) ?_⟩
    have g5396 := (g5372.trans g85).trans g96
    refine ⟨fun out t w' => ∃ g : Nat, t = g ∧ g ≤ b.length ∧ OwnT w' w12.heap.size out (atF V K f ++ atG V K f g) ∧ Grow w12 w', fun _ t _ => b.length - t.toNat, ⟨0, rfl, by omega, by simpa [atG] using Own.grow hout g5396, g53.trans g5396⟩, ?_⟩
    rintro - out2 t w128 ⟨g, rfl, hg, hout2, g128⟩
    refine condD (fun hlt3 => ?_) fun hge3 => ?_
    · have hgl : g < b.length := by omega
      have hsu := atG_succ V K f g
      have skip : attN V K f g = false → inR ((g : Int) + 1) ∧ ((∃ g' : Nat, (g : Int) + 1 = g' ∧ g' ≤ b.length ∧ OwnT w128 w12.heap.size out2 (atF V K f ++ atG V K f g') ∧ Grow w12 w128) ∧ b.length - Int.toNat ((g : Int) + 1) < b.length - Int.toNat (g : Int)) := fun h0 => by
        rw [h0, if_neg (by decide)] at hsu
        exact ⟨by unfold inR; omega, ⟨g + 1, by omega, by omega, by rw [hsu]; exact hout2, g128⟩, by first | omega | (dsimp only; omega)⟩
      refine condD (fun he => skip ?_) fun he => ⟨by omega, condD (fun h0 => skip ?_) fun h0 => ?_⟩
      · have : g = f := by omega
        rw [hreach, this]
        simp
      · have := (bit_zero (by omega)).1 h0
        rw [hreach, this, Bool.and_false]
      · have hb : ((Rnd U b.length f b.length 0).1).testBit g = true := by
          rw [← Bool.not_eq_false]
          exact fun h => h0 ((bit_zero (by omega)).2 h)
        have hat : attN V K f g = true := by
          rw [hreach, hb, Bool.and_true]
          exact decide_eq_true (by omega)
        rw [if_pos hat] at hsu
        obtain ⟨a129, n130, c131, e129, b129, c129⟩ := rdD (hallS g128) (j := (g : Int)) rfl (by rw [depK_len]; exact hgl)
        have eKg : ∀ {h : g < (depK V K b.length).length}, (((depK V K b.length)[g]'h).1 : Int) = (K.getD g 0 : Int) := fun {h} => by rw [depK_get]
        rw [eKg] at c129
        have hst : ∀ z : Int, (z = if strN V K f g = true then 1 else 0) → ∃ v w133, (Instr.buildSlice 102 1 #[(0, (Value.agg #[(Value.int .i64 (f : Int)), (Value.int .i64 (g : Int)), (Value.int .i64 z)]))]).run Tryz.prog w128 = .ok v w133 ∧ PApp Tryz.prog 102 102 out2 v w133 fun t w136 => inR ((g : Int) + 1) ∧ ((∃ g' : Nat, (g : Int) + 1 = g' ∧ g' ≤ b.length ∧ OwnT w136 w12.heap.size t (atF V K f ++ atG V K f g') ∧ Grow w12 w136) ∧ b.length - Int.toNat ((g : Int) + 1) < b.length - Int.toNat (g : Int)) := fun z hz => by
          refine bs1 el_at3 (by omega) (by omega) rfl w128 fun w133 hw133 => ?_
          have hlen : (atF V K f ++ atG V K f g).length ≤ 50 := by
            rw [List.length_append]
            have h1 := atF_le V K f
            have h2 := atG_le V K f g
            have h3 : f * V.length ≤ 5 * 5 := Nat.mul_le_mul (by omega) (by omega)
            omega
          refine pappR el_at3 (by omega) opF_len opF_one (x := ((f : Int), (g : Int), z)) hw133 hout2 g128.size (by omega) (by omega) fun v' w136 ho2 hf2 => ⟨by unfold inR; omega, ⟨g + 1, by omega, by omega, ?_, ?_⟩, by first | omega | (dsimp only; omega)⟩
          · rw [hsu, ← List.append_assoc]
            have e : atS V K f g = ((f : Int), (g : Int), z) := by unfold atS; rw [hz]
            rw [e]
            exact ho2
          · exact (g128.trans (alloc_grow hw133)).fr hf2 fun x hx e => by have := (Own.lt hout2 e.symm).1; omega
        refine ⟨a129, n130, c131, e129, b129, _, c129, ?_⟩
        rw [iAndNot_nat (by have := K256 g; omega) (by omega)]
        refine condP_i (fun h1 => hst 1 ?_) fun h1 => hst 0 ?_
        · have : strN V K f g = true := decide_eq_true fun h => by
            rw [h] at h1
            simp at h1
          rw [if_pos this]
        · have : ¬ strN V K f g = true := fun h => of_decide_eq_true h (by rw [Bool.not_eq_false'] at h1; have := of_decide_eq_true h1; omega)
          rw [if_neg this]
    · have hgn : g = b.length := by omega
      subst hgn
      refine ⟨by unfold inR; omega, ⟨f + 1, by omega, by omega, ?_, g128⟩, by first | omega | (dsimp only; omega)⟩
      rw [atF_succ, hVl]
      exact hout2
end Go.Proofs.YtmjpnfapjcfejaaGreatDoor

/- Terms of a question that is being rewritten; the first atom by masks; numbers that an atom and a fact give. Of no program. No condition. -/
namespace Go.Proofs.YtmjpnfapjcfejaaGreatDoor
open Go VC
set_option linter.unusedSimpArgs false
set_option linter.unusedVariables false

/-! ## Terms -/
abbrev TAtm := Int × List (Int × Int)
def tmM (m : List Int) (x : Int) : Int × Int := if x < 0 then (0, -x) else if mg m x.toNat ≠ 0 then (0, mg m x.toNat) else (x, 0)
def tsub (m : List Int) (a : Atm) : TAtm := (a.1, a.2.map (tmM m))
def tq (p : Int × Int) : Int := if 0 < p.2 then -1 else p.1
def qryA (a : TAtm) : Atm := (a.1, a.2.map tq)
def PosM (m : List Int) : Prop := ∀ x, 0 ≤ mg m x
def m0 : List Int := [0, 0, 0, 0, 0, 0, 0, 0]
theorem mg_m0 (x : Nat) : mg m0 x = 0 := by
  unfold mg m0
  rcases x with _ | _ | _ | _ | _ | _ | _ | _ | x <;> rfl
theorem posM_m0 : PosM m0 := fun x => by rw [mg_m0]; exact Int.le_refl _
theorem goneN_m0 : goneN m0 = 0 := by decide
theorem tmM_m0 (x : Int) : tmM m0 x = if x < 0 then (0, -x) else (x, 0) := by
  unfold tmM
  rw [mg_m0]
  simp
theorem tq_tm {m : List Int} (hp : PosM m) {x : Int} : tq (tmM m x) = if x < 0 ∨ mg m x.toNat ≠ 0 then -1 else x := by
  unfold tmM
  by_cases h : x < 0
  · rw [if_pos h, if_pos (.inl h), tq, if_pos (by show 0 < -x; omega)]
  · rw [if_neg h]
    by_cases h2 : mg m x.toNat ≠ 0
    · rw [if_pos h2, if_pos (.inr h2), tq, if_pos (by show 0 < mg m x.toNat; have := hp x.toNat; omega)]
    · rw [if_neg h2, if_neg (fun h3 => h3.elim h h2), tq, if_neg (by show ¬ (0 : Int) < 0; omega)]
theorem varsL_q {m : List Int} (hm : m.length = 8) (hp : PosM m) (xs : List Int) : varsL ((xs.map (tmM m)).map tq) = nSub (varsL xs) (goneN m) := Nat.eq_of_testBit_eq fun i => by
  rw [Bool.eq_iff_iff, varsL_bit, nSub_bit, Bool.and_eq_true, Bool.not_eq_true', ← Bool.not_eq_true, goneN_bit hm, varsL_bit, List.map_map, List.mem_map]
  constructor
  · rintro ⟨x, hx, e⟩
    rw [Function.comp, tq_tm hp] at e
    split at e
    · omega
    · rename_i hc
      subst e
      refine ⟨hx, fun hd => hc (.inr ?_)⟩
      rw [Int.toNat_natCast]
      exact hd
  · rintro ⟨hx, hd⟩
    refine ⟨_, hx, ?_⟩
    rw [Function.comp, tq_tm hp, if_neg]
    rintro (h | h)
    · omega
    · rw [Int.toNat_natCast] at h
      exact hd h
section
variable {s : List Int} {atoms : List Atm} {m : List Int}
theorem varsOf_q (hm : m.length = 8) (hp : PosM m) : varsOf ((atoms.map (tsub m)).map qryA) = atoms.map (VM m) := by
  unfold varsOf
  rw [List.map_map, List.map_map]
  refine List.map_congr_left fun a _ => ?_
  show varsL ((a.2.map (tmM m)).map tq) = _
  rw [varsL_q hm hp]
  rfl
theorem keysOf_q (hm : m.length = 8) (hp : PosM m) : keysOf s ((atoms.map (tsub m)).map qryA) = atoms.map (KM (klS s) m) := by
  unfold keysOf
  rw [List.map_map, List.map_map]
  refine List.map_congr_left fun a _ => ?_
  show varsL (((a.2.map (tmM m)).map tq).take (klS s a.1)) = _
  rw [← List.map_take, ← List.map_take, varsL_q hm hp]
  rfl
theorem okA_q (hp : PosM m) (hA : ∀ a ∈ atoms, okA a = true) : ∀ a ∈ (atoms.map (tsub m)).map qryA, okA a = true := fun a ha => by
  rw [List.map_map] at ha
  obtain ⟨b, hb, rfl⟩ := List.mem_map.1 ha
  have h := okA_iff.1 (hA b hb)
  refine okA_iff.2 ⟨h.1, h.2.1, ?_, ?_, fun x hx => ?_⟩
  · simpa [qryA, tsub] using h.2.2.1
  · simpa [qryA, tsub] using h.2.2.2.1
  · have hx : x ∈ (b.2.map (tmM m)).map tq := hx
    rw [List.map_map] at hx
    obtain ⟨y, hy, rfl⟩ := List.mem_map.1 hx
    rw [Function.comp, tq_tm hp]
    have := h.2.2.2.2 y hy
    split <;> omega
theorem keyB_q (hK : keyB s atoms = true) : keyB s ((atoms.map (tsub m)).map qryA) = true := by
  unfold keyB at hK ⊢
  rw [List.all_eq_true] at hK ⊢
  intro a ha
  rw [List.map_map] at ha
  obtain ⟨b, hb, rfl⟩ := List.mem_map.1 ha
  simpa [qryA, tsub] using hK b hb
end
/-! ## The first atom, by masks -/
def hitP (l : List At3) : Nat := l.foldl (fun h e => h ||| 2 ^ e.2.1.toNat) 0
theorem hitP_app (l : List At3) (e : At3) : hitP (l ++ [e]) = hitP l ||| 2 ^ e.2.1.toNat := by simp [hitP]
theorem hitP_go {g : Nat} : ∀ (l : List At3) (a : Nat), (l.foldl (fun h e => h ||| 2 ^ e.2.1.toNat) a).testBit g = true ↔ a.testBit g = true ∨ ∃ e ∈ l, e.2.1.toNat = g
  | [], a => by simp
  | e :: l, a => by
    rw [List.foldl_cons, hitP_go l, bit_or_pow]
    constructor
    · rintro ((h | h) | ⟨x, hx, h⟩)
      · exact .inl h
      · exact .inr ⟨e, List.mem_cons_self .., h.symm⟩
      · exact .inr ⟨x, List.mem_cons_of_mem _ hx, h⟩
    · rintro (h | ⟨x, hx, h⟩)
      · exact .inl (.inl h)
      · rcases List.mem_cons.1 hx with rfl | hx
        · exact .inl (.inr h.symm)
        · exact .inr ⟨x, hx, h⟩
theorem hitP_bit {g : Nat} {l : List At3} : (hitP l).testBit g = true ↔ ∃ e ∈ l, e.2.1.toNat = g := by
  unfold hitP
  rw [hitP_go, Nat.zero_testBit]
  simp
theorem hitR_bit {V K : List Nat} {g : Nat} (hg : g < V.length) : (hitP (attR V K)).testBit g = true ↔ ∃ f, f < V.length ∧ attN V K f g = true := by
  rw [hitP_bit]
  constructor
  · rintro ⟨e, he, h⟩
    obtain ⟨f, g', hf, hg', ha, rfl⟩ := mem_attR.1 he
    have : g' = g := by simpa [atS] using h
    subst this
    exact ⟨f, hf, ha⟩
  · rintro ⟨f, hf, ha⟩
    exact ⟨atS V K f g, mem_attR.2 ⟨f, g, hf, hg, ha, rfl⟩, by simp [atS]⟩
theorem hitP_lt {n : Nat} {l : List At3} (h : ∀ e ∈ l, e.2.1.toNat < n) : hitP l < 2 ^ n := Nat.lt_pow_two_of_testBit _ fun x hx => by
  rw [← Bool.not_eq_true, hitP_bit]
  rintro ⟨e, he, rfl⟩
  have := h e he
  omega
theorem hitR_lt {V K : List Nat} (k : Nat) : hitP ((attR V K).take k) < 2 ^ V.length := hitP_lt fun e he => by
  obtain ⟨f, g, hf, hg, ha, rfl⟩ := mem_attR.1 (List.mem_of_mem_take he)
  simpa [atS] using hg
/-! ## Two atoms that attack each other -/
def mutB (V K : List Nat) : Bool := (List.range V.length).any fun f => (List.range V.length).any fun g => attN V K f g && attN V K g f
theorem mutB_iff {V K : List Nat} : mutB V K = true ↔ mutN V K := by
  unfold mutB mutN
  rw [List.any_eq_true]
  constructor
  · rintro ⟨f, hf, h⟩
    obtain ⟨g, hg, h⟩ := List.any_eq_true.1 h
    rw [Bool.and_eq_true] at h
    exact ⟨f, g, List.mem_range.1 hf, List.mem_range.1 hg, h.1, h.2⟩
  · rintro ⟨f, g, hf, hg, h1, h2⟩
    exact ⟨f, List.mem_range.2 hf, List.any_eq_true.2 ⟨g, List.mem_range.2 hg, by rw [h1, h2]; rfl⟩⟩
/-- An attack among those of a list comes from an atom that is left. -/
theorem any_attR {V K : List Nat} {left i : Nat} : (attR V K).any (fun e => decide (e.2.1 = (i : Int)) && left.testBit e.1.toNat) = true ↔ i < V.length ∧ ∃ f, f < V.length ∧ attN V K f i = true ∧ left.testBit f = true := by
  rw [List.any_eq_true]
  constructor
  · rintro ⟨e, he, h⟩
    obtain ⟨f, g, hf, hg, ha, rfl⟩ := mem_attR.1 he
    rw [Bool.and_eq_true, decide_eq_true_eq] at h
    have h1 : ((g : Nat) : Int) = (i : Int) := h.1
    have : g = i := by omega
    subst this
    exact ⟨hg, f, hf, ha, by simpa [atS] using h.2⟩
  · rintro ⟨hi, f, hf, ha, hb⟩
    exact ⟨_, mem_attR.2 ⟨f, i, hf, hi, ha, rfl⟩, by simp [atS, hb]⟩
/-! ## Numbers that an atom and a fact give -/
/-- A map holds the numbers that m' has beyond those of m. -/
def NewM (kv : List (Int × Value)) (m m' : List Int) : Prop := ∀ x : Nat, getM kv (x : Int) = if mg m x = 0 ∧ mg m' x ≠ 0 then some (.int .i64 (mg m' x)) else none
theorem NewM.nil (m : List Int) : NewM [] m m := fun x => by
  rw [if_neg fun h => h.2 h.1]
  rfl
theorem NewM.upd {kv : List (Int × Value)} {m m' : List Int} (h : NewM kv m m') {y : Nat} (hy : y < m'.length) (h0 : mg m y = 0) {z : Int} (hz : z ≠ 0) : NewM (updM kv (y : Int) (.int .i64 z)) m (m'.set y z) := fun x => by
  rw [getM_upd, mg_set hy]
  by_cases e : x = y
  · subst e
    rw [if_pos rfl, if_pos rfl, if_pos ⟨h0, hz⟩]
  · rw [if_neg (by omega), if_neg e, h x]
theorem tmM_neg {m : List Int} {x : Int} (h : x < 0) : tmM m x = (0, -x) := by rw [tmM, if_pos h]
theorem tmM_num {m : List Int} {x : Int} (h : ¬ x < 0) (h2 : mg m x.toNat ≠ 0) : tmM m x = (0, mg m x.toNat) := by rw [tmM, if_neg h, if_pos h2]
theorem tmM_var {m : List Int} {x : Int} (h : ¬ x < 0) (h2 : mg m x.toNat = 0) : tmM m x = (x, 0) := by rw [tmM, if_neg h, if_neg fun h3 => h3 h2]
theorem tm_new {kv : List (Int × Value)} {m m' : List Int} (h : NewM kv m m') (hk : ∀ x, mg m x ≠ 0 → mg m' x = mg m x) (x : Int) : tmM m' x = if (tmM m x).2 = 0 ∧ (getM kv (tmM m x).1).isSome = true then (0, mg m' x.toNat) else tmM m x := by
  by_cases h1 : x < 0
  · rw [tmM_neg h1, tmM_neg h1, if_neg]
    rintro ⟨h2, -⟩
    dsimp only at h2
    omega
  · have ex : x = ((x.toNat : Nat) : Int) := by omega
    by_cases h2 : mg m x.toNat = 0
    · rw [tmM_var h1 h2]
      have hn := h x.toNat
      rw [← ex] at hn
      by_cases h3 : mg m' x.toNat = 0
      · rw [tmM_var h1 h3, if_neg]
        rintro ⟨-, h4⟩
        dsimp only at h4
        rw [hn, if_neg fun h => h.2 h3] at h4
        cases h4
      · rw [tmM_num h1 h3, if_pos]
        refine ⟨rfl, ?_⟩
        dsimp only
        rw [hn, if_pos ⟨h2, h3⟩]
        rfl
    · have h3 := hk _ h2
      rw [tmM_num h1 h2, tmM_num h1 (by rw [h3]; exact h2), if_neg, h3]
      rintro ⟨h4, -⟩
      exact h2 h4
theorem zip_take_succ : ∀ {xs ys : List Int} {k : Nat} (hx : k < xs.length) (hy : k < ys.length), (xs.take (k + 1)).zip ys = (xs.take k).zip ys ++ [(xs[k], ys[k])]
  | [], _, _, hx, _ => by simp at hx
  | _ :: _, [], _, _, hy => by simp at hy
  | x :: xs, y :: ys, 0, _, _ => by simp
  | x :: xs, y :: ys, k + 1, hx, hy => by
    have := zip_take_succ (xs := xs) (ys := ys) (k := k) (by simpa using hx) (by simpa using hy)
    rw [List.take_succ_cons, List.zip_cons_cons, this, List.take_succ_cons, List.zip_cons_cons, List.cons_append]
    rfl
theorem fitR_take {xs ys m : List Int} {k : Nat} (hx : k < xs.length) (hy : k < ys.length) : fitR (xs.take (k + 1)) ys m = fitP (fitR (xs.take k) ys m) (xs[k], ys[k]) := by
  unfold fitR
  rw [zip_take_succ hx hy, List.foldl_append]
  rfl
theorem fitR_bad {xs ys m : List Int} {k : Nat} (hk : k ≤ xs.length) (h : fitR (xs.take k) ys m = none) : fitR xs ys m = none := by
  have e : xs.zip ys = (xs.take k).zip ys ++ (xs.drop k).zip (ys.drop k) := by
    clear h
    induction k generalizing xs ys with
    | zero => simp
    | succ k ih =>
      cases xs with
      | nil => simp
      | cons x xs =>
        cases ys with
        | nil => simp
        | cons y ys =>
          rw [List.take_succ_cons, List.zip_cons_cons, List.zip_cons_cons, List.drop_succ_cons, List.drop_succ_cons, List.cons_append, ← ih (by simpa using hk)]
  unfold fitR at h ⊢
  rw [e, List.foldl_append, h]
  exact fit_none _
theorem set_mg {m : List Int} {y : Nat} (h : mg m y ≠ 0) : m.set y (mg m y) = m := by
  have hy : y < m.length := by
    rcases Nat.lt_or_ge y m.length with h1 | h1
    · exact h1
    · exact absurd (by simp [mg, List.getD, List.getElem?_eq_none h1]) h
  have : mg m y = m[y] := by simp [mg, List.getD, hy]
  rw [this, List.set_getElem_self]
end Go.Proofs.YtmjpnfapjcfejaaGreatDoor

/- The error of a question, of its copy. Of no program. No condition. -/
namespace Go.Proofs.YtmjpnfapjcfejaaGreatDoor
open Go Go.RowKit VC
set_option linter.unusedSimpArgs false
set_option linter.unusedVariables false

theorem askN_tr (s h : List Int) (b : List Atm) : askN (s.take 9) (h.take 9) (trB b) = askN s h b := by
  unfold askN
  rw [okS_tr, okQ_tr]
  by_cases hS : okS s = true
  · by_cases hq : okQ h b = true
    · rw [okS_take hS, (trB_of hq).1]
    · have hq : okQ h b = false := by simpa using hq
      rw [hq]
      simp
  · have hS : okS s = false := by simpa using hS
    rw [hS]
    simp
end Go.Proofs.YtmjpnfapjcfejaaGreatDoor

/- Contracts: whether attacks have a cycle, by the program. No condition. -/
namespace Go.Proofs.YtmjpnfapjcfejaaGreatDoor
open Go Go.RowKit VC
set_option linter.unusedSimpArgs false
set_option linter.unusedVariables false

def AsksT (w : World) (f : Value) (l : List At3) (p : At3 → Bool) : Prop :=
  ∃ g fst cap, f = .func (.func g) fst cap ∧ callOK g = true ∧ ∀ a ∈ l, ∀ w', Grow w w' → Calls Tryz.prog g (fst ++ #[.agg (opF a).toArray] ++ cap) w' (Ret w' (.bool (p a)))
theorem indexT_c {w : World} {v f : Value} {l : List At3} {p : At3 → Bool} (hs : SlT w v l) (hf : AsksT w f l p) : Calls Tryz.prog 134 #[v, f] w (Ret w (.int .i64 (idxOf p l))) := by
  refine f134_calls _ _ ?_
  obtain ⟨g, fst, cap, rfl, hg, hcall⟩ := hf
  have hle := SlR.len_le hs
  refine SlR.ln hs ⟨fun t w' => ∃ k : Nat, t = k ∧ k ≤ l.length ∧ Grow w w' ∧ ∀ j (hj : j < l.length), j < k → p l[j] = false, fun t _ => l.length - t.toNat, ⟨0, rfl, by omega, Grow.refl w, fun j _ h => by omega⟩, ?_⟩
  rintro - t w1 ⟨k, rfl, hk, hw, hno⟩
  refine condD (fun hlt => ?_) (fun hge => ?_)
  · have hkl : k < l.length := by omega
    obtain ⟨a, m, c, q1, q2, cs, q3, q4, rfl⟩ := SlR.rd (SlR.grow hs hw) opF_len rfl hkl (K := fun cs => cs = opF l[k]) rfl
    refine ⟨a, m, c, q1, q2, _, q3, q4, g, fst, cap, rfl, hg, ?_⟩
    refine (hcall l[k] (List.getElem_mem hkl) w1 hw).mono ?_
    rintro e w2 ⟨rfl, hg2⟩
    refine ⟨_, rfl, condP_i (fun hp => ?_) (fun hp => ?_)⟩
    · exact ⟨by rw [idxOf_some hkl hp hno], hw.trans hg2⟩
    · refine ⟨by unfold inR; omega, ⟨k + 1, by omega, by omega, hw.trans hg2, fun j hj hjk => ?_⟩, by first | omega | (dsimp only; omega)⟩
      by_cases e : j = k
      · subst e; exact hp
      · exact hno j hj (by omega)
  · exact ⟨by rw [idxOf_none fun j hj => hno j hj (by omega)], hw⟩
theorem containsT_c {w : World} {v f : Value} {l : List At3} {p : At3 → Bool} (hs : SlT w v l) (hf : AsksT w f l p) : Calls Tryz.prog 97 #[v, f] w (Ret w (.bool (l.any p))) := by
  refine f97_calls _ _ ?_
  refine (indexT_c hs hf).mono ?_
  rintro e w' ⟨rfl, hg⟩
  refine ⟨_, rfl, ?_, hg⟩
  rw [idxOf_any]
theorem circle1_c {w : World} {e : At3} {p q : Addr} {i left : Nat} (c0 : w.cell? p = some (.int .i64 (i : Int))) (c1 : w.cell? q = some (.int .i64 (left : Int))) (h0 : 0 ≤ e.1) (h1 : e.1 < 63) : Calls Tryz.prog 98 #[.agg (opF e).toArray, .pointer (some p), .pointer (some q)] w (Ret w (.bool (decide (e.2.1 = (i : Int)) && left.testBit e.1.toNat))) := by
  refine f98_calls _ _ _ ⟨_, rfl, fun w1 hw1 => ?_⟩
  have g1 := alloc_grow hw1
  have e1 : e.1 = ((e.1.toNat : Nat) : Int) := by omega
  refine ⟨⟨by omega, by first | omega | (dsimp only; omega)⟩, _, boxc hw1 _ _ rfl, _, g1.cell c0, condD (fun he => ⟨_, g1.cell c1, ⟨by omega, by first | omega | (dsimp only; omega)⟩, _, boxc hw1 _ _ rfl, h0, ?_, g1⟩) fun hne => ⟨?_, g1⟩⟩
  · rw [decide_eq_true he, Bool.true_and]
    conv => lhs; rw [e1]
    congr 2
    rw [Bool.eq_iff_iff, decide_eq_true_eq]
    exact bitR (by omega)
  · rw [decide_eq_false hne]; rfl
def boxN (w : World) (b : Nat) : Nat := match w.cell? ⟨b, 0, none⟩ with | some (.int _ x) => x.toNat | _ => 0
theorem boxN_eq {w : World} {b : Nat} {x : Nat} (h : Box w b (.int .i64 (x : Int))) : boxN w b = x := by
  unfold boxN
  rw [h.cell]
  exact Int.toNat_natCast x
theorem circle_c {w : World} {lv : Value} {V K : List Nat} (hl : SlT w lv (attR V K)) (h5 : V.length ≤ 5) (hr : ¬ mutN V K → ∃ rk : Nat → Nat, ∀ f g, f < V.length → g < V.length → attN V K f g = true → rk f < rk g) :
    Calls Tryz.prog 69 #[lv, .int .i64 (V.length : Int)] w (Ret w (.bool (mutB V K))) := by
  have h32 : 2 ^ V.length ≤ 2 ^ 5 := Nat.pow_le_pow_right (by omega) h5
  have h1' : 1 ≤ 2 ^ V.length := Nat.pow_pos (by omega)
  have e1 : iShl .i64 1 (V.length : Int) - 1 = ((2 ^ V.length - 1 : Nat) : Int) := by rw [iShl_one (by omega)]; omega
  refine f69_calls _ _ ⟨by omega, ?_, fun w1 hw1 => ⟨⟨_, (Box.new hw1).cell⟩, (Box.new hw1).free, fun w2 hw2 => ?_⟩⟩
  · rw [e1]; unfold inR; omega
  rw [e1] at hw2
  have hb2 := (Box.new hw1).set hw2
  have g02 : Grow w w2 := (alloc_grow hw1).fr (set_fr hw2) fun i hi e => by have e : i = w.heap.size := e; omega
  refine ⟨fun w' => ∃ left : Nat, left < 2 ^ V.length ∧ MutIn V K left ∧ Box w' w.heap.size (.int .i64 (left : Int)) ∧ Grow w w', fun w' => cnt V.length (boxN w' w.heap.size), ⟨_, by omega, MutIn.init, hb2, g02⟩, ?_⟩
  rintro - w6 ⟨left, hlt, hmi, hb6, g6⟩
  refine ⟨_, hb6.cell, condP_i (fun hne => ?_) fun he => ?_⟩
  rotate_left
  · have he : left = 0 := by simpa using he
    subst he
    have : mutB V K = false := by
      rw [← Bool.not_eq_true, mutB_iff]
      exact hmi.zero
    exact ⟨by rw [this], g6⟩
  have hne : left ≠ 0 := by simpa using hne
  refine ⟨fun free t w' => ∃ i : Nat, t = i ∧ i ≤ V.length ∧ ((free = -1 ∧ ∀ j, j < i → ¬ freeT V K left j) ∨ ∃ f : Nat, free = f ∧ f < i ∧ freeT V K left f) ∧ Grow w6 w', fun _ t _ => V.length - t.toNat, ⟨0, rfl, by omega, .inl ⟨rfl, fun j hj => by omega⟩, Grow.refl _⟩, ?_⟩
  rintro - free t w13 ⟨i, rfl, hi, hfree, g13⟩
  have later : ¬ freeT V K left i → (free = -1 ∧ ∀ j, j < i + 1 → ¬ freeT V K left j) ∨ ∃ f : Nat, free = f ∧ f < i + 1 ∧ freeT V K left f := fun hn => by
    rcases hfree with ⟨e, h⟩ | ⟨f, e, hf, h⟩
    · refine .inl ⟨e, fun j hj => ?_⟩
      by_cases ej : j = i
      · subst ej; exact hn
      · exact h j (by omega)
    · exact .inr ⟨f, e, by omega, h⟩
  refine condD (fun hlt2 => ?_) fun hge2 => ?_
  · have hil : i < V.length := by omega
    intro w14 hw14
    refine ⟨⟨_, (Box.new hw14).cell⟩, (Box.new hw14).free, fun w15 hw15 => ?_⟩
    have hb15 := (Box.new hw14).set hw15
    have g15 : Grow w13 w15 := (alloc_grow hw14).fr (set_fr hw15) fun j hj e => by have e : j = w13.heap.size := e; omega
    have hbl := (hb6.grow g13).grow g15
    refine ⟨_, hbl.cell, _, hb15.cell, by omega, condD (fun h1 => ?_) fun h1 => ?_⟩
    · have h1 := (bitR (by omega)).1 h1
      refine (containsT_c (p := fun e => decide (e.2.1 = (i : Int)) && left.testBit e.1.toNat) (SlR.grow hl ((g6.trans g13).trans g15)) ⟨98, #[], _, rfl, rfl, fun e he w' g => ?_⟩).mono ?_
      · obtain ⟨f, g', hf, hg', ha, rfl⟩ := mem_attR.1 he
        exact circle1_c (hb15.grow g).cell (hbl.grow g).cell (by show (0 : Int) ≤ (f : Int); omega) (by show (f : Int) < 63; omega)
      · rintro e w18 ⟨rfl, g18⟩
        have g1318 := g13.trans (g15.trans g18)
        refine ⟨_, rfl, condP_i (fun hno => ?_) fun hyes => ?_⟩
        · have hno : (attR V K).any (fun e => decide (e.2.1 = (i : Int)) && left.testBit e.1.toNat) = false := by simpa using hno
          refine ⟨_, (hb15.grow g18).cell, by unfold inR; omega, ⟨i + 1, by omega, by omega, .inr ⟨i, rfl, by omega, h1, fun f hf ha => ?_⟩, g1318⟩, by first | omega | (dsimp only; omega)⟩
          rw [← Bool.not_eq_true]
          intro hb
          have := any_attR.2 ⟨hil, f, hf, ha, hb⟩
          rw [hno] at this
          cases this
        · have hyes : (attR V K).any (fun e => decide (e.2.1 = (i : Int)) && left.testBit e.1.toNat) = true := by simpa using hyes
          obtain ⟨-, f, hf, ha, hb⟩ := any_attR.1 hyes
          refine ⟨by unfold inR; omega, ⟨i + 1, by omega, by omega, later fun hT => ?_, g1318⟩, by first | omega | (dsimp only; omega)⟩
          have := hT.2 f hf ha
          rw [hb] at this
          cases this
    · refine ⟨by unfold inR; omega, ⟨i + 1, by omega, by omega, later fun hT => h1 ((bitR (by omega)).2 hT.1), g13.trans g15⟩, by first | omega | (dsimp only; omega)⟩
  · have hin : i = V.length := by omega
    subst hin
    refine condD (fun hneg => ?_) fun hpos => ?_
    · rcases hfree with ⟨e, h⟩ | ⟨f, e, hf, h⟩
      · have : mutB V K = true := mutB_iff.2 (stuck_mut hr hne hlt h)
        exact ⟨by rw [this], g6.trans g13⟩
      · omega
    · rcases hfree with ⟨e, h⟩ | ⟨f, rfl, hf, hT⟩
      · omega
      · intro d
        have gd : Grow w13 (dr w13 d.1) := (Grow.refl w13).dr d.1
        have hbd := (hb6.grow g13).grow gd
        refine ⟨by omega, _, hbd.cell, ⟨_, hbd.cell⟩, hbd.free, fun w24 hw24 => ?_⟩
        have hp : 2 ^ f < 2 ^ 5 := Nat.pow_lt_pow_right (by omega) (by omega)
        rw [iShl_one (by omega), iAndNot_nat (by omega) (by omega)] at hw24
        have hb24 : Box w24 w.heap.size (.int .i64 ((clr left f : Nat) : Int)) := hbd.set hw24
        have hcl := cnt_clr (n := V.length) ⟨(by omega : f < V.length), hT.1⟩
        have hlt2 : clr left f < 2 ^ V.length := VC.nSub_lt hlt
        refine ⟨⟨clr left f, hlt2, hmi.clr hT, hb24, ?_⟩, ?_⟩
        · exact ((g6.trans g13).trans gd).fr (set_fr hw24) fun i hi e => by have e : i = w.heap.size := e; omega
        · show cnt V.length (boxN w24 w.heap.size) < cnt V.length (boxN w6 w.heap.size)
          rw [boxN_eq hb24, boxN_eq hb6]
          omega
end Go.Proofs.YtmjpnfapjcfejaaGreatDoor
