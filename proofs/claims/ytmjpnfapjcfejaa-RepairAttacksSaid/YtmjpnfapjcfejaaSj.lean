/- The attacks, by the reference; lists of attacks are compared. No condition. -/
import Derived.Test.YtmjpnfapjcfejaaSi
import Derived.ChangeKeysEq
import Derived.Laws.StructEq
namespace Go.Proofs.Ytmjpnfapjcfejaa
open Go Go.RowKit VC
set_option linter.unusedSimpArgs false
set_option linter.unusedVariables false

theorem equal3 {P : Program} {t e : TypeId} (ht : P.underlying t = some (.array 3 e)) (he : P.underlying e = some (.int .i64)) (hs : P.cellsOf e = 1) (d : Nat) (a b c x y z : Int) (w : World) :
    (Op.equalIn (d + 2) t (.agg #[.int .i64 a, .int .i64 b, .int .i64 c]) (.agg #[.int .i64 x, .int .i64 y, .int .i64 z])).run P w = .ok (decide (a = x ∧ b = y ∧ c = z)) w := by
  have hsz : (sizeOf e).run P w = .ok 1 w := by rw [cellsOf_run (by omega), hs]
  have pt : ∀ (xs : Array Value) (i : Nat) (v : Value), xs[i]? = some v → (part e xs i).run P w = .ok v w := fun xs i v hv => part_one he (by intro fs h; cases h) (by intro n e' h; cases h) xs i v hv w
  have i1 : ∀ u v : Int, (Op.equalIn (d + 1) e (.int .i64 u) (.int .i64 v)).run P w = .ok (u == v) w := fun u v => run_equalIn_int w d e .i64 .i64 u v he
  rw [Op.equalIn]
  simp only [Sem.run_bind, underlying_run ht, Result.andThen_ok, hsz]
  rw [Std.Legacy.Range.forIn_eq_forIn_range']
  have hr : List.range' 0 3 1 = [0, 1, 2] := rfl
  simp [Std.Legacy.Range.size, hr, pt, i1]
  by_cases h1 : a = x <;> by_cases h2 : b = y <;> by_cases h3 : c = z <;> simp [h1, h2, h3]
theorem el_arr3 : Try.prog.underlying 40 = some (.array 3 3) ∧ Try.prog.underlying 3 = some (.int .i64) ∧ Try.prog.cellsOf 3 = 1 ∧ Try.prog.eqGuardType Try.prog.depth 40 = false := ⟨by kernel_rfl, by kernel_rfl, by kernel_rfl, by kernel_rfl⟩
theorem neq3 {ox oy : Operand} (p q : At3) : PBinR Try.prog .neq 40 ox oy (.agg (opF p).toArray) (.agg (opF q).toArray) (!decide (p = q)) := fun w => by
  obtain ⟨a, b, c⟩ := p
  obtain ⟨x, y, z⟩ := q
  obtain ⟨h1, h2, h3, h4⟩ := el_arr3
  have e : decide ((a, b, c) = (x, y, z)) = decide (a = x ∧ b = y ∧ c = z) := by
    rw [decide_eq_decide, Prod.mk.injEq, Prod.mk.injEq]
  rw [e]
  simp only [Sem.run_bind, run_eqGuard_agg (hm := h4), Result.andThen_ok, run_neq_struct]
  show ((Op.equalIn 10000 40 (.agg #[.int .i64 a, .int .i64 b, .int .i64 c]) (.agg #[.int .i64 x, .int .i64 y, .int .i64 z])).run Try.prog w).andThen _ = _
  rw [show (10000 : Nat) = 9998 + 2 from rfl, equal3 h1 h2 h3]
  rfl
theorem equalT_c {w : World} {u v : Value} {l l' : List At3} (hx : SlT w u l) (hy : SlT w v l') : Calls Try.prog 13 #[u, v] w (Ret w (.bool (decide (l = l')))) := by
  refine f13_calls _ _ ?_
  have hle := SlR.len_le hx
  refine SlR.ln hx (SlR.ln hy (condP_i (fun hne => ⟨?_, Grow.refl w⟩) fun heq => SlR.ln hx ?_))
  · have hne : ¬ l.length = l'.length := by simp at hne; omega
    rw [decide_eq_false fun e => hne (by rw [e])]
  have hlen : l.length = l'.length := by simp at heq; omega
  refine ⟨fun t w' => ∃ k : Nat, t = k ∧ k ≤ l.length ∧ l.take k = l'.take k ∧ Grow w w', fun t _ => l.length - t.toNat, ⟨0, rfl, by omega, rfl, Grow.refl w⟩, ?_⟩
  rintro - t w1 ⟨k, rfl, hk, he, hw⟩
  refine condD (fun hlt => ?_) fun hge => ?_
  · have hkl : k < l.length := by omega
    have hkl' : k < l'.length := by omega
    obtain ⟨a, m, c, q1, q2, cs, q3, q4, rfl⟩ := SlR.rd (SlR.grow hx hw) opF_len rfl hkl (K := fun cs => cs = opF l[k]) rfl
    obtain ⟨a', m', c', q5, q6, cs', q7, q8, rfl⟩ := SlR.rd (SlR.grow hy hw) opF_len rfl hkl' (K := fun cs => cs = opF l'[k]) rfl
    refine ⟨a, m, c, q1, q2, _, q3, q4, a', m', c', q5, q6, _, q7, q8, _, neq3 _ _, fun d => ?_⟩
    have gd : Grow w1 (dr w1 d.1) := (Grow.refl w1).dr d.1
    refine condP_i (fun hne => ⟨?_, hw.trans gd⟩) fun heq => ⟨by unfold inR; omega, ⟨k + 1, by omega, by omega, ?_, hw.trans gd⟩, by first | omega | (dsimp only; omega)⟩
    · have hne : ¬ l[k] = l'[k] := by simpa using hne
      rw [decide_eq_false fun e => hne (by subst e; rfl)]
    · have heq : l[k] = l'[k] := by simpa using heq
      rw [List.take_succ_eq_append_getElem hkl, List.take_succ_eq_append_getElem hkl', he, heq]
  · have hkl : k = l.length := by omega
    subst hkl
    rw [List.take_length, hlen, List.take_length] at he
    rw [decide_eq_true he]
    exact ⟨rfl, hw⟩
theorem attacksR_c {w : World} {sv hv bv : Value} {s : List Int} {b : List Atm} (hs : SlI w sv s) (sb : SlA w bv b) (hS : okS s = true) (oA : ∀ a ∈ b, okA a = true) (h5 : b.length ≤ 5) (hK : keyB s b = true) :
    Calls Try.prog 14 #[sv, .agg #[hv, bv]] w fun e w' => ∃ v, e = .returned v ∧ SlT w' v (attR (varsOf b) (keysOf s b)) ∧ Grow w w' := by
  refine f14_calls _ _ ⟨_, rfl, fun w1 hw1 => ?_⟩
  have g1 := alloc_grow hw1
  have hQ := RecV.new hw1
  obtain ⟨V, eV⟩ : ∃ V, V = varsOf b := ⟨_, rfl⟩
  obtain ⟨K, eK⟩ : ∃ K, K = keysOf s b := ⟨_, rfl⟩
  rw [← eV, ← eK]
  have hVG : VG 0 b = V := by rw [VG_0, eV]
  have hKG : KG s 0 b = K := by rw [KG_0, eK]
  have hVl : V.length = b.length := by rw [eV]; simp [varsOf]
  have hV : ∀ i, V.getD i 0 < 256 := hVG ▸ VG_lt oA
  have hKl : ∀ i, K.getD i 0 < 256 := hKG ▸ KG_lt oA
  have bT : ∀ a ∈ b, ∀ x ∈ a.2, -9 ≤ x ∧ x ≤ 7 := fun a ha => (okA_iff.1 (oA a ha)).2.2.2.2
  have keyC : ∀ {w' : World} {u : Value} {i : Nat} (hi : i < b.length), Grow w w' → SlI w' u b[i].2 → Calls Try.prog 29 #[sv, .agg #[.int .i64 b[i].1, u], .int .i64 0] w' (Ret w' (.int .i64 (K.getD i 0 : Nat))) := fun {w' u i} hi g hu => by
    have oAi := okA_iff.1 (oA _ (List.getElem_mem hi))
    have := refKeyS_c (gone := 0) (hs.grow g) hS oAi.1 oAi.2.1 (key_le hK hi) hu (bT _ (List.getElem_mem hi)) (by omega)
    rw [← KG_get hi, hKG] at this
    exact this
  refine ⟨_, boxc hw1 1 _ rfl, SlX.ln (sb.gr g1) ?_⟩
  refine ⟨fun out t w' => ∃ f : Nat, t = f ∧ f ≤ b.length ∧ OwnT w' w1.heap.size out (atF V K f) ∧ Grow w1 w', fun _ t _ => b.length - t.toNat, ⟨0, rfl, by omega, Own.nil _ _ _ _, Grow.refl _⟩, ?_⟩
  rintro - out t w12 ⟨f, rfl, hf, hout, g12⟩
  refine condD (fun hlt => ?_) fun hge => ?_
  rotate_left
  · have hfn : f = b.length := by omega
    subst hfn
    refine ⟨_, rfl, ?_, g1.trans g12⟩
    unfold attR
    rw [hVl]
    exact Own.slR hout
  have hfl : f < b.length := by omega
  refine locR sb (g1.trans g12) rfl hfl rfl fun w18 u g18 s18 hu hc => ⟨_, ((hQ.grow g12).grow g18).cell (j := 1) rfl, SlX.ln (sb.gr ((g1.trans g12).trans g18)) ?_⟩
  have g018 := (g1.trans g12).trans g18
  refine ⟨fun out t w' => ∃ g : Nat, t = g ∧ g ≤ b.length ∧ OwnT w' w1.heap.size out (atF V K f ++ atG V K f g) ∧ RecV w' w12.heap.size [.int .i64 b[f].1, u] ∧ (∀ k, out.ownBlock = some k → k ≠ w12.heap.size) ∧ Grow w1 w', fun _ t _ => b.length - t.toNat, ⟨0, rfl, by omega, by simpa [atG] using Own.grow hout g18, hc, fun k hk => by have := (Own.lt hout hk).2; omega, g12.trans g18⟩, ?_⟩
  rintro - out2 t w29 ⟨g, rfl, hg, hout2, hc29, hne29, g29⟩
  have g029 := g1.trans g29
  refine condD (fun hlt2 => ?_) fun hge2 => ?_
  rotate_left
  · have hgn : g = b.length := by omega
    subst hgn
    refine ⟨by unfold inR; omega, ⟨f + 1, by omega, by omega, ?_, g29⟩, by first | omega | (dsimp only; omega)⟩
    rw [atF_succ, hVl]
    exact hout2
  have hgl : g < b.length := by omega
  refine locR sb g029 rfl hgl rfl fun w35 u2 g35 s35 hu2 hc2 => ⟨_, (hQ.grow (g29.trans g35)).cell (j := 1) rfl, ?_⟩
  have g035 := g029.trans g35
  refine (attackedR_c (gone := 0) (hs.grow g035) (sb.gr g035) hS oA h5 hK (by omega) hfl).mono ?_
  rintro e w38 ⟨rfl, g38⟩
  rw [hVG, hKG]
  have g038 := g035.trans g38
  have hsu := atG_succ V K f g
  have g1838 := (g29.trans g35).trans g38
  refine ⟨_, rfl, by omega, condD (fun h0 => ?_) fun h0 => ?_⟩
  · have h0 := (bit_zero (by omega)).1 h0
    rw [atkN_bit (by omega)] at h0
    rw [h0, if_neg (by decide)] at hsu
    exact ⟨by unfold inR; omega, ⟨g + 1, by omega, by omega, by rw [hsu]; exact Own.grow hout2 (g35.trans g38), hc29.grow (g35.trans g38), hne29, g1838⟩, by first | omega | (dsimp only; omega)⟩
  · have hat : attN V K f g = true := by
      rw [← atkN_bit (by omega), ← Bool.not_eq_false]
      exact fun h => h0 ((bit_zero (by omega)).2 h)
    rw [if_pos hat] at hsu
    have hc38 := hc2.grow g38
    have hcf38 := hc29.grow (g35.trans g38)
    have ewide : clF (depX (VG 0 b) (KG s 0 b) (-1) b.length) (K.getD f 0) = wideN V K f := by
      rw [hVG, hKG, ← hVl, depX_A]
      rfl
    have w256 : wideN V K f < 256 := by
      rw [← ewide]
      exact clF_lt (depX_small (hVG ▸ hV) (hKG ▸ hKl) _ _) (hKl f)
    refine ⟨[_, _], rfl, hc38.all, _, fun w42 g42 => keyC hgl (g038.trans g42) (hu2.grow (g038.trans g42)), _, (hQ.grow (g29.trans (g35.trans g38))).cell (j := 1) rfl, [_, _], rfl, hcf38.all, _, fun w48 g48 => keyC hfl (g038.trans g48) (hu.grow (g038.trans g48)), (wideN V K f : Nat), fun w52 g52 => ?_, fun w56 g56 => ?_⟩
    · rw [← ewide]
      exact closureR_c (gone := 0) (but := -1) (a := K.getD f 0) (hs.grow (g038.trans g52)) (sb.gr (g038.trans g52)) hS oA h5 hK (by omega) (hKl f)
    · rw [iAndNot_nat (by have := hKl g; omega) (by omega)]
      have g3556 := (g35.trans g38).trans g56
      have s1 := g12.size
      have s18s := g18.size
      have s2 := g29.size
      have s3 := g3556.size
      have hst : ∀ z : Int, (z = if strN V K f g = true then 1 else 0) → ∃ v w57, (Instr.buildSlice 26 1 #[(0, (Value.agg #[(Value.int .i64 (f : Int)), (Value.int .i64 (g : Int)), (Value.int .i64 z)]))]).run Try.prog w56 = .ok v w57 ∧ PApp Try.prog 26 26 out2 v w57 fun t w60 => inR ((g : Int) + 1) ∧ ((∃ g' : Nat, (g : Int) + 1 = g' ∧ g' ≤ b.length ∧ OwnT w60 w1.heap.size t (atF V K f ++ atG V K f g') ∧ RecV w60 w12.heap.size [.int .i64 b[f].1, u] ∧ (∀ k, t.ownBlock = some k → k ≠ w12.heap.size) ∧ Grow w1 w60) ∧ b.length - Int.toNat ((g : Int) + 1) < b.length - Int.toNat (g : Int)) := fun z hz => by
        refine bs1 el_at3 (by omega) (by omega) rfl w56 fun w57 hw57 => ?_
        have hlen : (atF V K f ++ atG V K f g).length ≤ 50 := by
          rw [List.length_append]
          have h1 := atF_le V K f
          have h2 := atG_le V K f g
          have h3 : f * V.length ≤ 5 * 5 := Nat.mul_le_mul (by omega) (by omega)
          omega
        refine pappRk el_at3 (by omega) opF_len opF_one (x := ((f : Int), (g : Int), z)) hw57 (Own.grow hout2 g3556) (by omega) (by omega) (by omega) fun v' w60 ho2 hf2 hbl => ⟨by unfold inR; omega, ⟨g + 1, by omega, by omega, ?_, ((hc29.grow g3556).grow (alloc_grow hw57)).fr hf2 fun e => hne29 _ e.symm rfl, fun k hk => (hbl k hk).elim (fun e => hne29 k e.symm) fun e => by have := hc29.lt; omega, ?_⟩, by first | omega | (dsimp only; omega)⟩
        · rw [hsu, ← List.append_assoc]
          have e : atS V K f g = ((f : Int), (g : Int), z) := by unfold atS; rw [hz]
          rw [e]
          exact ho2
        · exact ((g29.trans g3556).trans (alloc_grow hw57)).fr hf2 fun x hx e => by have := (Own.lt hout2 e.symm).1; omega
      refine condP_i (fun h1 => hst 1 ?_) fun h1 => hst 0 ?_
      · have : strN V K f g = true := decide_eq_true fun h => by
          rw [h] at h1
          simp at h1
        rw [if_pos this]
      · have : ¬ strN V K f g = true := fun h => of_decide_eq_true h (by rw [Bool.not_eq_false'] at h1; have := of_decide_eq_true h1; omega)
        rw [if_neg this]
end Go.Proofs.Ytmjpnfapjcfejaa
