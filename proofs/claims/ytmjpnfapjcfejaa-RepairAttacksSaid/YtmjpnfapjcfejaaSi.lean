/- Contracts of the reference: keys, closures, attacked atoms, whether a question is keyed and plain. No condition. -/
import Derived.Test.YtmjpnfapjcfejaaSo
import Derived.Test.YtmjpnfapjcfejaaRl
namespace Go.Proofs.Ytmjpnfapjcfejaa
open Go Go.RowKit VC
set_option linter.unusedSimpArgs false
set_option linter.unusedVariables false

theorem refV_c {w : World} {u : Value} {r : Int} {xs : List Int} {gone : Nat} (hu : SlI w u xs) (hx : ∀ x ∈ xs, -9 ≤ x ∧ x ≤ 7) (hg : gone < 256) : Calls Try.prog 47 #[.agg #[.int .i64 r, u], .int .i64 (gone : Int)] w (Ret w (.int .i64 (nSub (varsL xs) gone : Nat))) := by
  refine f47_calls _ _ ⟨_, rfl, fun w1 hw1 => ?_⟩
  have g1 := alloc_grow hw1
  refine ⟨[_, _], rfl, (RecV.new hw1).all, (refVars_c (hu.grow g1) hx).mono ?_⟩
  rintro e w4 ⟨rfl, g4⟩
  have := varsL_lt hx
  exact ⟨_, rfl, by rw [iAndNot_nat (by omega) (by omega)], g1.trans g4⟩
theorem refKeyS_c {w : World} {sv u : Value} {s : List Int} {r : Int} {xs : List Int} {gone : Nat} (hs : SlI w sv s) (hS : okS s = true) (h0 : 0 ≤ r) (h5 : r ≤ 5) (hk : klS s r ≤ xs.length) (hu : SlI w u xs) (hx : ∀ x ∈ xs, -9 ≤ x ∧ x ≤ 7) (hg : gone < 256) : Calls Try.prog 29 #[sv, .agg #[.int .i64 r, u], .int .i64 (gone : Int)] w (Ret w (.int .i64 (nSub (varsL (xs.take (klS s r))) gone : Nat))) := by
  refine f29_calls _ _ _ ⟨_, rfl, fun w1 hw1 => ?_⟩
  have g1 := alloc_grow hw1
  obtain ⟨hi, e, h3⟩ := okS_get hS h0 h5
  refine ⟨_, boxc hw1 1 _ rfl, _, boxc hw1 0 _ rfl, (hs.grow g1).rd (by omega) hi ?_⟩
  rw [e]
  obtain ⟨ua, un, uc, ue, ul, uh, um, ub, hv'⟩ := (hu.grow g1).upto (i := klS s r) (k := .i64) (K := fun x => SlI w1 x (xs.take (klS s r))) rfl hk fun v' h => h
  have hx2 : ∀ x ∈ xs.take (klS s r), -9 ≤ x ∧ x ≤ 7 := fun x h => hx x (List.mem_of_mem_take h)
  have := varsL_lt hx2
  refine ⟨ua, un, uc, ue, ul, uh, um, ub, hv'.one, _, fun w2 g2 => refVars_c (hv'.grow g2) hx2, fun w3 g3 => ⟨?_, g1.trans g3⟩⟩
  rw [iAndNot_nat (by omega) (by omega)]
/-! ## Closures -/
theorem el_rdep : ElT Try.prog 82 83 2 16 (.agg #[.int .i64 0, .int .i64 0]) := ⟨by kernel_rfl, ⟨Try.t83, by kernel_rfl, by kernel_rfl, by kernel_rfl, by kernel_rfl⟩, rfl⟩
abbrev OwnE (w : World) (B : Nat) (v : Value) (l : List (Nat × Nat)) : Prop := Own w B 83 2 v l.length ((encD l).flatMap spF)
theorem OwnE.sl {w : World} {B : Nat} {v : Value} {l : List (Nat × Nat)} (h : OwnE w B v l) : SlD w v l := by
  have := Own.slC h
  unfold SlD SlR
  rw [encD_len]
  exact this
theorem refCl_c {w : World} {v : Value} {l : List (Nat × Nat)} {a : Nat} (hs : SlD w v l) (hsm : smallD l) (ha : a < 256) : Calls Try.prog 48 #[v, .int .i64 (a : Int)] w (Ret w (.int .i64 (clF l a : Nat))) := by
  refine f48_calls _ _ ?_
  have hle := SlR.len_le hs
  rw [encD_len] at hle
  refine SlR.ln hs ?_
  rw [encD_len]
  refine ⟨fun set t w' => ∃ r : Nat, t = r ∧ r ≤ l.length ∧ set = (ClS l a r 0 : Nat) ∧ Grow w w', fun _ t _ => l.length - t.toNat, ⟨0, rfl, by omega, rfl, Grow.refl _⟩, ?_⟩
  rintro - set t w9 ⟨r, rfl, hr, rfl, g9⟩
  refine condD (fun hlt => ?_) fun hge => ?_
  · refine SlR.ln (SlR.grow hs g9) ?_
    rw [encD_len]
    refine ⟨fun set t w' => ∃ k : Nat, t = k ∧ k ≤ l.length ∧ set = (ClS l a r k : Nat) ∧ Grow w w', fun _ t _ => l.length - t.toNat, ⟨0, rfl, by omega, rfl, g9⟩, ?_⟩
    rintro - set t w18 ⟨k, rfl, hk, rfl, g18⟩
    have hc : ClS l a r k < 256 := ClS_lt hsm ha
    refine condD (fun hlt2 => ?_) fun hge2 => ?_
    · have hkl : k < l.length := by omega
      have hd := hsm _ (List.getElem_mem hkl)
      refine locD hs g18 rfl hkl rfl fun w24 g24 s24 hr2 => ⟨_, hr2.cell (j := 0) rfl, ?_⟩
      have hst := ClS_succ (a := a) (r := r) hkl
      unfold stepC at hst
      refine condD (fun h0 => ?_) fun h0 => ?_
      · have h0 := nSub_zero.2 (sub_bits.1 ((andNot_zero hd.1 hc).1 h0))
        rw [if_pos h0] at hst
        refine ⟨_, hr2.cell (j := 1) rfl, by unfold inR; omega, ⟨k + 1, by omega, by omega, ?_, g18.trans g24⟩, by first | omega | (dsimp only; omega)⟩
        rw [hst, iOr_nat (by omega) (by omega)]
      · have h0 : ¬ nSub l[k].1 (ClS l a r k) = 0 := fun h => h0 ((andNot_zero hd.1 hc).2 (sub_bits.2 (nSub_zero.1 h)))
        rw [if_neg h0] at hst
        exact ⟨by unfold inR; omega, ⟨k + 1, by omega, by omega, by rw [hst], g18.trans g24⟩, by first | omega | (dsimp only; omega)⟩
    · have hkl : k = l.length := by omega
      subst hkl
      exact ⟨by unfold inR; omega, ⟨r + 1, by omega, by omega, by rw [ClS_row], g18⟩, by first | omega | (dsimp only; omega)⟩
  · have hrl : r = l.length := by omega
    subst hrl
    exact ⟨by rw [ClS_end], g9⟩
section
variable {s : List Int} {b : List Atm}
theorem key_le (hK : keyB s b = true) {k : Nat} (hk : k < b.length) : klS s b[k].1 ≤ b[k].2.length := of_decide_eq_true (List.all_eq_true.1 hK _ (List.getElem_mem hk))
theorem closureR_c {w : World} {sv bv : Value} {gone a : Nat} {but : Int} (hs : SlI w sv s) (sb : SlA w bv b) (hS : okS s = true) (oA : ∀ a ∈ b, okA a = true) (h5 : b.length ≤ 5) (hK : keyB s b = true) (hg : gone < 256) (ha : a < 256) :
    Calls Try.prog 30 #[sv, bv, .int .i64 but, .int .i64 (gone : Int), .int .i64 (a : Int)] w (Ret w (.int .i64 (clF (depX (VG gone b) (KG s gone b) but b.length) a : Nat))) := by
  refine f30_calls _ _ _ _ _ ?_
  have hV := VG_lt (gone := gone) oA
  have hKG := KG_lt (s := s) (gone := gone) oA
  have bT : ∀ a ∈ b, ∀ x ∈ a.2, -9 ≤ x ∧ x ≤ 7 := fun a ha => (okA_iff.1 (oA a ha)).2.2.2.2
  refine SlX.ln sb ⟨fun l t w' => ∃ k : Nat, t = k ∧ k ≤ b.length ∧ OwnE w' w.heap.size l (depX (VG gone b) (KG s gone b) but k) ∧ Grow w w', fun _ t _ => b.length - t.toNat, ⟨0, rfl, by omega, Own.nil _ _ _ _, Grow.refl _⟩, ?_⟩
  rintro - l t w9 ⟨k, rfl, hk, hl, g9⟩
  refine condD (fun hlt => ?_) fun hge => ?_
  · have hkl : k < b.length := by omega
    have oAk := okA_iff.1 (oA _ (List.getElem_mem hkl))
    refine locR sb g9 rfl hkl rfl fun w15 u g15 s15 hu hc => ?_
    have hst := depX_succ (VG gone b) (KG s gone b) but k
    refine condP_i (fun hne => ?_) fun heq => ?_
    · have hne : (k : Int) ≠ but := by simpa using hne
      rw [if_pos hne] at hst
      intro d
      have gd : Grow w15 (dr w15 d.1) := (Grow.refl w15).dr d.1
      have g0D := (g9.trans g15).trans gd
      have hcd := hc.grow gd
      refine ⟨[_, _], rfl, hcd.all, [_, _], rfl, hcd.all, (refKeyS_c (hs.grow g0D) hS oAk.1 oAk.2.1 (key_le hK hkl) (hu.grow g0D) (bT _ (List.getElem_mem hkl)) hg).mono ?_⟩
      rintro e w20 ⟨rfl, g20⟩
      refine ⟨_, rfl, g20, (refV_c (hu.grow (g0D.trans g20)) (bT _ (List.getElem_mem hkl)) hg).mono ?_⟩
      rintro e w23 ⟨rfl, g23⟩
      refine ⟨_, rfl, g23, ?_⟩
      rw [← KG_get hkl, ← VG_get hkl]
      have g9_23 := ((g15.trans gd).trans g20).trans g23
      refine bs1 el_rdep (by omega) (by omega) rfl w23 fun w26 hw26 => ?_
      have s9 := g9.size
      have s923 := g9_23.size
      have hle := depX_le (VG gone b) (KG s gone b) but k
      have ho : Own w23 w.heap.size 83 2 l (encD (depX (VG gone b) (KG s gone b) but k)).length ((encD (depX (VG gone b) (KG s gone b) but k)).flatMap spF) := by
        rw [encD_len]
        exact Own.grow hl g9_23
      refine pappR el_rdep (by omega) spF_len spF_one (x := (((KG s gone b).getD k 0 : Int), ((VG gone b).getD k 0 : Int))) hw26 ho (by omega) (by rw [encD_len]; omega) (by omega) fun v' w29 ho2 hf2 => ⟨by unfold inR; omega, ⟨k + 1, by omega, by omega, ?_, ?_⟩, by first | omega | (dsimp only; omega)⟩
      · rw [hst]
        unfold OwnE
        have e1 : encD (depX (VG gone b) (KG s gone b) but k ++ [((KG s gone b).getD k 0, (VG gone b).getD k 0)]) = encD (depX (VG gone b) (KG s gone b) but k) ++ [(((KG s gone b).getD k 0 : Int), ((VG gone b).getD k 0 : Int))] := by simp [encD]
        rw [← encD_len (depX (VG gone b) (KG s gone b) but k ++ [((KG s gone b).getD k 0, (VG gone b).getD k 0)]), e1]
        exact ho2
      · exact ((g9.trans g9_23).trans (alloc_grow hw26)).fr hf2 fun x hx e => by have := (Own.lt hl e.symm).1; omega
    · have heq : ¬ (k : Int) ≠ but := by simpa using heq
      rw [if_neg heq] at hst
      exact ⟨by unfold inR; omega, ⟨k + 1, by omega, by omega, by rw [hst]; exact Own.grow hl g15, g9.trans g15⟩, by first | omega | (dsimp only; omega)⟩
  · have hkl : k = b.length := by omega
    subst hkl
    refine (refCl_c hl.sl (depX_small hV hKG _ _) ha).mono ?_
    rintro e w30 ⟨rfl, g30⟩
    exact ⟨_, rfl, rfl, g9.trans g30⟩
/-! ## Attacked atoms -/
theorem attackedR_c {w : World} {sv bv : Value} {gone f : Nat} (hs : SlI w sv s) (sb : SlA w bv b) (hS : okS s = true) (oA : ∀ a ∈ b, okA a = true) (h5 : b.length ≤ 5) (hK : keyB s b = true) (hg : gone < 256) (hf : f < b.length) :
    Calls Try.prog 28 #[sv, bv, .int .i64 (f : Int), .int .i64 (gone : Int)] w (Ret w (.int .i64 (atkN (VG gone b) (KG s gone b) f : Nat))) := by
  refine f28_calls _ _ _ _ ?_
  obtain ⟨V, eV⟩ : ∃ V, V = VG gone b := ⟨_, rfl⟩
  obtain ⟨K, eK⟩ : ∃ K, K = KG s gone b := ⟨_, rfl⟩
  have hVl : V.length = b.length := by rw [eV, VG_len]
  have hV : ∀ i, V.getD i 0 < 256 := eV ▸ VG_lt oA
  have hKl : ∀ i, K.getD i 0 < 256 := eK ▸ KG_lt oA
  have gV : ∀ {i} (hi : i < b.length), V.getD i 0 = nSub (varsL b[i].2) gone := fun hi => by rw [eV]; exact VG_get hi
  have gK : ∀ {i} (hi : i < b.length), K.getD i 0 = nSub (varsL (b[i].2.take (klS s b[i].1))) gone := fun hi => by rw [eK]; exact KG_get hi
  have bT : ∀ a ∈ b, ∀ x ∈ a.2, -9 ≤ x ∧ x ≤ 7 := fun a ha => (okA_iff.1 (oA a ha)).2.2.2.2
  have oAf := okA_iff.1 (oA _ (List.getElem_mem hf))
  refine SlX.rd (pinR sb (Grow.refl _)) rfl hf fun cs hcl hrr => ?_
  obtain ⟨uf, rfl, huf⟩ := hrr
  refine (refKeyS_c hs hS oAf.1 oAf.2.1 (key_le hK hf) huf (bT _ (List.getElem_mem hf)) hg).mono ?_
  rintro e w5 ⟨rfl, g5⟩
  refine ⟨_, rfl, ?_⟩
  rw [← gK hf]
  refine (closureR_c (but := (f : Int)) (hs.grow g5) (sb.gr g5) hS oA h5 hK hg (hKl f)).mono ?_
  rintro e w8 ⟨rfl, g8⟩
  have g08 := g5.trans g8
  refine ⟨_, rfl, by omega, ?_⟩
  rw [← eV, ← eK]
  have eplus : clF (depX V K (f : Int) b.length) (K.getD f 0) = plusN V K f := by
    rw [← hVl, depX_B]
    rfl
  rw [eplus]
  have p256 : plusN V K f < 256 := by
    rw [← eplus]
    exact clF_lt (depX_small hV hKl _ _) (hKl f)
  obtain ⟨U, eU⟩ : ∃ U, U = UN V K f := ⟨_, rfl⟩
  have Uand : ∀ i j, nSub (V.getD i 0 &&& V.getD j 0) (plusN V K f) = U i &&& U j := fun i j => by
    rw [eU]
    refine Nat.eq_of_testBit_eq fun x => ?_
    unfold UN
    rw [nSub_bit, Nat.testBit_and, Nat.testBit_and, nSub_bit, nSub_bit]
    cases (V.getD i 0).testBit x <;> cases (V.getD j 0).testBit x <;> cases (plusN V K f).testBit x <;> rfl
  have lt32 : ∀ r i j, i ≤ b.length → j ≤ b.length → MetS U b.length f r i j < 32 := fun r i j hi hj => by
    have h1 : MetS U b.length f r i j < 2 ^ b.length := MetS_lt hf hi hj
    have h2 : 2 ^ b.length ≤ 2 ^ 5 := Nat.pow_le_pow_right (by omega) h5
    omega
  refine SlX.ln sb ⟨fun met t w' => ∃ r : Nat, t = r ∧ r ≤ b.length ∧ met = (MetS U b.length f r 0 0 : Nat) ∧ Grow w w', fun _ t _ => b.length - t.toNat, ⟨0, rfl, by omega, ?_, g08⟩, ?_⟩
  · rw [iShl_one (by omega)]
    rfl
  rintro - met t w19 ⟨r, rfl, hr, rfl, g19⟩
  refine condD (fun hlt => ?_) fun hge => ?_
  · refine SlX.ln sb ⟨fun met t w' => ∃ i : Nat, t = i ∧ i ≤ b.length ∧ met = (MetS U b.length f r i 0 : Nat) ∧ Grow w w', fun _ t _ => b.length - t.toNat, ⟨0, rfl, by omega, rfl, g19⟩, ?_⟩
    rintro - met t w28 ⟨i, rfl, hi, rfl, g28⟩
    refine condD (fun hlt2 => ?_) fun hge2 => ?_
    · have hil : i < b.length := by omega
      refine locR sb g28 rfl hil rfl fun w34 u g34 s34 hu hc => ?_
      refine SlX.ln sb ⟨fun met t w' => ∃ j : Nat, t = j ∧ j ≤ b.length ∧ met = (MetS U b.length f r i j : Nat) ∧ Grow w34 w', fun _ t _ => b.length - t.toNat, ⟨0, rfl, by omega, rfl, Grow.refl _⟩, ?_⟩
      rintro - met t w44 ⟨j, rfl, hj, rfl, g44⟩
      have g034 := g28.trans g34
      have g044 := g034.trans g44
      have hlt0 := lt32 r i j hi hj
      have hst := MetS_succ U b.length f r i j
      unfold stepM2 at hst
      refine condD (fun hlt3 => ?_) fun hge3 => ?_
      · have hjl : j < b.length := by omega
        refine locR sb g044 rfl hjl rfl fun w50 u2 g50 s50 hu2 hc2 => ⟨by omega, ?_⟩
        have g050 := g044.trans g50
        have stay : ∀ {w'}, Grow w50 w' → ¬ ((MetS U b.length f r i j).testBit i = true ∧ U i &&& U j ≠ 0) → inR ((j : Int) + 1) ∧ ((∃ j' : Nat, (j : Int) + 1 = j' ∧ j' ≤ b.length ∧ ((MetS U b.length f r i j : Nat) : Int) = (MetS U b.length f r i j' : Nat) ∧ Grow w34 w') ∧ b.length - Int.toNat ((j : Int) + 1) < b.length - Int.toNat (j : Int)) := fun g hn => by
          rw [if_neg hn] at hst
          exact ⟨by unfold inR; omega, ⟨j + 1, by omega, by omega, by rw [hst], (g44.trans g50).trans g⟩, by first | omega | (dsimp only; omega)⟩
        refine condD (fun h1 => ?_) fun h1 w63 g63 => stay g63 ?_
        · have h1 := (bitR (by omega)).1 h1
          refine ⟨[_, _], rfl, (hc.grow (g44.trans g50)).all, _, fun w53 g53 => refV_c (hu.grow (g050.trans g53)) (bT _ (List.getElem_mem hil)) hg, [_, _], rfl, hc2.all, _, fun w58 g58 => refV_c (hu2.grow (g050.trans g58)) (bT _ (List.getElem_mem hjl)) hg, fun w62 g62 => ?_⟩
          rw [← gV hil, ← gV hjl, iAnd_nat (by have := hV i; omega) (by have := hV j; omega), iAndNot_nat (by have := VC.nSub_lt (n := 8) (b := 0) (hV i); have := Nat.and_le_left (n := V.getD i 0) (m := V.getD j 0); have := hV i; omega) (by omega), Uand]
          refine condP_i (fun hne => ?_) fun heq => stay g62 ?_
          · have hne : U i &&& U j ≠ 0 := by
              simp at hne
              omega
            rw [if_pos ⟨h1, hne⟩] at hst
            refine ⟨by omega, by unfold inR; omega, ⟨j + 1, by omega, by omega, ?_, (g44.trans g50).trans g62⟩, by first | omega | (dsimp only; omega)⟩
            rw [hst, iShl_one (by omega), iOr_nat (by omega) (by have := Nat.pow_lt_pow_right (a := 2) (n := 5) (by omega) (by omega : j < 5); omega)]
          · rintro ⟨-, h⟩
            simp at heq
            omega
        · rintro ⟨h, -⟩
          exact h1 ((bitR (by omega)).2 h)
      · have hjn : j = b.length := by omega
        subst hjn
        exact ⟨by unfold inR; omega, ⟨i + 1, by omega, by omega, by rw [MetS_row], g044⟩, by first | omega | (dsimp only; omega)⟩
    · have hin : i = b.length := by omega
      subst hin
      exact ⟨by unfold inR; omega, ⟨r + 1, by omega, by omega, by rw [MetS_round], g28⟩, by first | omega | (dsimp only; omega)⟩
  · have hrn : r = b.length := by omega
    subst hrn
    refine ⟨by omega, ?_, g19⟩
    have := lt32 b.length 0 0 (by omega) (by omega)
    rw [iShl_one (by omega), iAndNot_nat (by omega) (by have := Nat.pow_lt_pow_right (a := 2) (n := 5) (by omega) (by omega : f < 5); omega)]
    unfold atkN
    rw [hVl, ← MetS_end, ← eU]
end
/-! ## Keyed and plain -/
theorem refKeyed_c {w : World} {sv hv bv : Value} {s : List Int} {b : List Atm} (hs : SlI w sv s) (sb : SlA w bv b) (hS : okS s = true) (oA : ∀ a ∈ b, okA a = true) : Calls Try.prog 10 #[sv, .agg #[hv, bv]] w (Ret w (.bool (keyB s b))) := by
  refine f10_calls _ _ ⟨_, rfl, fun w1 hw1 => ?_⟩
  have g1 := alloc_grow hw1
  have hle := SlX.len_le sb
  refine ⟨_, boxc hw1 1 _ rfl, SlX.ln (sb.gr g1) ?_⟩
  refine ⟨fun t w' => ∃ k : Nat, t = k ∧ k ≤ b.length ∧ keyB s (b.take k) = true ∧ Grow w w', fun t _ => b.length - t.toNat, ⟨0, rfl, by omega, rfl, g1⟩, ?_⟩
  rintro - t w11 ⟨k, rfl, hk, hok, g11⟩
  refine condD (fun hlt => ?_) fun hge => ?_
  · have hkl : k < b.length := by omega
    have oAk := okA_iff.1 (oA _ (List.getElem_mem hkl))
    obtain ⟨hi, e, h3⟩ := okS_get hS oAk.1 oAk.2.1
    refine locR sb g11 rfl hkl rfl fun w17 u g17 s17 hu hc => ⟨_, hc.cell (j := 1) rfl, hu.ln ⟨_, hc.cell (j := 0) rfl, (hs.grow (g11.trans g17)).rd (by omega) hi fun d => ?_⟩⟩
    have gd : Grow w17 (dr w17 d.1) := (Grow.refl w17).dr d.1
    rw [e]
    refine condD (fun hlt2 => ⟨?_, (g11.trans g17).trans gd⟩) fun hge2 => ⟨by unfold inR; omega, ⟨k + 1, by omega, by omega, ?_, (g11.trans g17).trans gd⟩, by first | omega | (dsimp only; omega)⟩
    · have : keyB s b = false := by
        rw [← Bool.not_eq_true, keyB, List.all_eq_true]
        intro h2
        have := h2 _ (List.getElem_mem hkl)
        rw [decide_eq_true_eq] at this
        omega
      rw [this]
    · rw [keyB, List.take_succ_eq_append_getElem hkl, List.all_append, Bool.and_eq_true]
      exact ⟨hok, by simp; omega⟩
  · have hkl : k = b.length := by omega
    subst hkl
    rw [List.take_length] at hok
    exact ⟨by rw [hok], g11⟩
theorem refPlain_c {w : World} {hv bv : Value} {b : List Atm} (sb : SlA w bv b) : Calls Try.prog 12 #[.agg #[hv, bv]] w (Ret w (.bool (plnB b))) := by
  refine f12_calls _ ⟨_, rfl, fun w1 hw1 => ?_⟩
  have g1 := alloc_grow hw1
  have hQ := RecV.new hw1
  have hle := SlX.len_le sb
  refine ⟨_, boxc hw1 1 _ rfl, SlX.ln (sb.gr g1) ?_⟩
  refine ⟨fun t w' => ∃ k : Nat, t = k ∧ k ≤ b.length ∧ plnB (b.take k) = true ∧ Grow w1 w', fun t _ => b.length - t.toNat, ⟨0, rfl, by omega, rfl, Grow.refl _⟩, ?_⟩
  rintro - t w11 ⟨k, rfl, hk, hok, g11⟩
  refine condD (fun hlt => ?_) fun hge => ?_
  · have hkl : k < b.length := by omega
    refine locR sb (g1.trans g11) rfl hkl rfl fun w17 u g17 s17 hu hc => ⟨_, ((hQ.grow g11).grow g17).cell (j := 1) rfl, ?_⟩
    have g017 := (g1.trans g11).trans g17
    obtain ⟨ua, un, uc, ue, ul, uh, um, ub, hv'⟩ := SlX.upto (sb.gr g017) (ik := .i64) (K := fun x => SlA w17 x (b.take k)) rfl (Nat.le_of_lt hkl) fun v' hv' => hv'
    refine ⟨ua, un, uc, ue, ul, uh, um, ub, SlX.ln hv' ?_⟩
    have hsu := plnB_succ hkl
    have hlk : (b.take k).length = k := by rw [List.length_take]; omega
    refine ⟨fun t w' => ∃ j : Nat, t = j ∧ j ≤ k ∧ ((b.take k).take j).any (fun a => decide (a.1 = b[k].1)) = false ∧ Grow w17 w', fun t _ => k - t.toNat, ⟨0, rfl, by omega, rfl, Grow.refl _⟩, ?_⟩
    rintro - t w33 ⟨j, rfl, hj, hno, g33⟩
    rw [hlk]
    refine condD (fun hlt2 => ?_) fun hge2 => ?_
    · have hjl : j < (b.take k).length := by omega
      refine locR hv' g33 rfl hjl rfl fun w39 u2 g39 s39 hu2 hc2 => ⟨_, ((hc.grow g33).grow g39).cell (j := 0) rfl, _, hc2.cell (j := 0) rfl, condD (fun he => ⟨?_, (g017.trans g33).trans g39⟩) fun hne => ⟨by unfold inR; omega, ⟨j + 1, by omega, by omega, ?_, g33.trans g39⟩, by first | omega | (dsimp only; omega)⟩⟩
      · have hbad : (b.take k).any (fun a => decide (a.1 = b[k].1)) = true := List.any_eq_true.2 ⟨_, List.getElem_mem hjl, decide_eq_true he.symm⟩
        rw [plnB_bad (k := k + 1) (by rw [hsu, hbad]; simp)]
      · rw [List.take_succ_eq_append_getElem hjl, List.any_append, hno, Bool.false_or]
        simpa using fun h => hne (by rw [List.getElem_take] ; exact h.symm)
    · have hjk : j = k := by omega
      subst hjk
      rw [List.take_of_length_le (by omega)] at hno
      exact ⟨by unfold inR; omega, ⟨j + 1, by omega, by omega, by rw [hsu, hok, hno]; rfl, (g11.trans g17).trans g33⟩, by first | omega | (dsimp only; omega)⟩
  · have hkl : k = b.length := by omega
    subst hkl
    rw [List.take_length] at hok
    exact ⟨by rw [hok], g1.trans g11⟩
end Go.Proofs.Ytmjpnfapjcfejaa
