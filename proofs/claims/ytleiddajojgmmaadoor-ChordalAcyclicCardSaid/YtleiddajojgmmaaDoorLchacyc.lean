/- The statement ChordalAcyclic, as a contract. The table of bits is laid (Tab). -/
import Derived.Test.YtleiddajojgmmaaDoorUh
import Derived.Test.YtleiddajojgmmaaDoorUb
import Derived.Test.YtleiddajojgmmaaDoorTa
import Derived.Test.YtleiddajojgmmaaDoorCn
import Derived.Test.YtleiddajojgmmaaDoorGacyclic
namespace Go.Proofs.YtleiddajojgmmaaDoor
open Go Go.RowKit VC
set_option linter.unusedSimpArgs false
set_option linter.unusedVariables false

theorem ears_neQ {n left : Nat} {V : List Nat} {p : List Int} {l2 : Nat} {p2 : List Int} (h : EarsR n left V p l2 p2) : (∃ i, InS n left i) → ∃ i, InS n l2 i := by
  induction h with
  | stop _ => exact fun h => h
  | @go left V p i k l2 p2 h1 hr ih =>
    intro _
    obtain ⟨hi, hk, ht⟩ := pick_some (Nat.le_refl n) h1
    obtain ⟨b1, b2, b3, b4⟩ := earT_iff.1 ht
    exact ih ⟨k, hk, clr_bit.2 ⟨b3, b1⟩⟩
theorem rest_singleQ {b : List Atm} (h1 : 1 ≤ b.length) (h5 : b.length ≤ 5) {l2 : Nat} {p2 : List Int} (h : EarsR b.length (2 ^ b.length - 1) (varsOf b) (List.replicate b.length (-1)) l2 p2) (hl : l2 < 2 ^ b.length) : restV l2 = 0 ↔ Single b.length l2 := by
  rw [single_pc h5 hl]
  unfold restV
  constructor
  · intro h0
    split at h0
    · assumption
    · obtain ⟨i, hi⟩ := ears_neQ h ⟨0, inS_all.2 (by omega)⟩
      rw [h0] at hi
      have := hi.2
      simp at this
  · intro hp
    rw [if_pos hp]
/-! ## The graph of the variables, and its sets -/
section
variable {h : List Int} {b : List Atm} {G : List Nat}
/-- The variable with the number k lies in the atom i. -/
def PV (b : List Atm) (i k : Nat) : Prop := ∃ (hi : i < b.length) (hk : k < (vsI b).length), (vsI b)[k] ∈ b[i].2
theorem vn_G (hne : vsI b ≠ []) (hG : GI (vsI b) (Rk b b.length) G) : VN G := by
  have hl : (vsI b).length ≤ 8 := by rw [vsI_len]; exact vsN_len b
  have hp : 1 ≤ (vsI b).length := by
    cases e : vsI b with
    | nil => exact absurd e hne
    | cons a r => simp
  have hlen := hG.len
  have gt : ∀ i (hi : i < G.length), G[i] = G.getD i 0 := fun i hi => by simp [List.getD, hi]
  refine ⟨by omega, by omega, fun i hi => ?_, fun i hi => ?_, fun i j hi hj => ?_⟩
  · rw [gt i hi, hlen]
    exact hG.lt i
  · rw [gt i hi, ← Bool.not_eq_true, hG.bit i (by omega)]
    rintro ⟨hj, h1, -⟩
    exact h1 rfl
  · rw [gt i hi, gt j hj, Bool.eq_iff_iff, hG.bit i (by omega), hG.bit j (by omega)]
    constructor
    · rintro ⟨_, h1, x, hx, h2, h3⟩
      exact ⟨by omega, fun e => h1 e.symm, x, hx, h3, h2⟩
    · rintro ⟨_, h1, x, hx, h2, h3⟩
      exact ⟨by omega, fun e => h1 e.symm, x, hx, h3, h2⟩
theorem Rk_full {a c : Int} : Rk b b.length a c ↔ ∃ i, ∃ hi : i < b.length, a ∈ b[i].2 ∧ c ∈ b[i].2 := by
  unfold Rk
  rw [List.take_length]
  constructor
  · rintro ⟨x, hx, h⟩
    obtain ⟨i, hi, rfl⟩ := List.getElem_of_mem hx
    exact ⟨i, hi, h⟩
  · rintro ⟨i, hi, h⟩
    exact ⟨_, List.getElem_mem hi, h⟩
theorem cov_G (hA : ∀ a ∈ b, okA a = true) (hG : GI (vsI b) (Rk b b.length) G) : CovP G (PV b) b.length := by
  have hlen := hG.len
  refine ⟨fun i k _ ⟨_, hk, _⟩ => by omega, fun k l => ?_, fun k hk => ?_⟩
  · by_cases hk : k < (vsI b).length
    · show (G.getD k 0).testBit l = true ↔ _
      rw [hG.bit k hk]
      constructor
      · rintro ⟨hl, h1, h2⟩
        obtain ⟨i, hi, h3, h4⟩ := Rk_full.1 h2
        exact ⟨fun e => h1 (by subst e; rfl), i, hi, ⟨hi, hk, h3⟩, ⟨hi, hl, h4⟩⟩
      · rintro ⟨hne, i, hi, ⟨_, _, h3⟩, ⟨_, hl, h4⟩⟩
        exact ⟨hl, fun e => hne (vs_inj (vsI_lt b) hk hl e), Rk_full.2 ⟨i, hi, h3, h4⟩⟩
    · constructor
      · intro h1
        have : (G.getD k 0).testBit l = true := h1
        rw [List.getD, List.getElem?_eq_none (by omega)] at this
        simp at this
      · rintro ⟨_, i, _, ⟨_, h3, _⟩, _⟩
        exact absurd h3 hk
  · have hk' : k < (vsI b).length := by omega
    obtain ⟨-, h1⟩ := (mem_vsI hA).1 (List.getElem_mem hk')
    obtain ⟨a, ha, hx⟩ := List.mem_flatMap.1 h1
    obtain ⟨i, hi, rfl⟩ := List.getElem_of_mem ha
    exact ⟨i, hi, hi, hk', hx⟩
theorem hasV_in {i : Nat} (hi : i < b.length) (x : Nat) : hasV b i x = true ↔ (x : Int) ∈ b[i].2 := by
  unfold hasV varsOf
  simp only [List.getD, List.getElem?_map, List.getElem?_eq_getElem hi, Option.map_some, Option.getD_some]
  exact varsL_bit
theorem elim_PV (hA : ∀ a ∈ b, okA a = true) : (∃ m, Elim (fun i x => hasV b i x = true) (InS b.length (2 ^ b.length - 1)) m) ↔ ∃ m, Elim (PV b) (fun i => i < b.length) m := by
  have eS : InS b.length (2 ^ b.length - 1) = fun i => i < b.length := by
    funext j
    exact propext inS_all
  rw [eS]
  have h79 : ∀ a ∈ b, ∀ x ∈ a.2, -9 ≤ x ∧ x ≤ 7 := fun a ha => (okA_iff.1 (hA a ha)).2.2.2.2
  have inN : ∀ {k : Nat} (hk : k < (vsI b).length), (((vsI b)[k].toNat : Nat) : Int) = (vsI b)[k] := fun {k} hk => Int.toNat_of_nonneg ((mem_vsI hA).1 (List.getElem_mem hk)).1
  constructor
  · rintro ⟨m, hm⟩
    refine ⟨m, hm.ears fun S' i k hs he => ⟨he.1, he.2.1, he.2.2.1, fun j hj hne x hx hy => ?_⟩⟩
    obtain ⟨hi, hk, h1⟩ := hx
    obtain ⟨hj', _, h2⟩ := hy
    have hk2 := hs _ he.2.1
    refine ⟨hk2, hk, ?_⟩
    have := (hasV_in hk2 _).1 (he.2.2.2 j hj hne ((vsI b)[x].toNat) ((hasV_in hi _).2 (by rw [inN hk]; exact h1)) ((hasV_in hj' _).2 (by rw [inN hk]; exact h2)))
    rw [inN hk] at this
    exact this
  · rintro ⟨m, hm⟩
    refine ⟨m, hm.ears fun S' i k hs he => ⟨he.1, he.2.1, he.2.2.1, fun j hj hne x hx hy => ?_⟩⟩
    have hi := hs _ he.1
    have hj' := hs _ hj
    have hk2 := hs _ he.2.1
    have hx := (hasV_in hi x).1 hx
    have hy := (hasV_in hj' x).1 hy
    have hxv : (x : Int) ∈ vsI b := (mem_vsI hA).2 ⟨by omega, List.mem_flatMap.2 ⟨_, List.getElem_mem hi, hx⟩⟩
    obtain ⟨κ, hκ, eκ⟩ := List.getElem_of_mem hxv
    obtain ⟨_, _, h3⟩ := he.2.2.2 j hj hne κ ⟨hi, hκ, by rw [eκ]; exact hx⟩ ⟨hj', hκ, by rw [eκ]; exact hy⟩
    rw [eκ] at h3
    exact (hasV_in hk2 x).2 h3
end
/-- The variables with the numbers in c, of the first k. -/
def setV (vs : List Int) (c k : Nat) : Nat := (List.range k).foldl (fun s i => if c.testBit i then s ||| 2 ^ (vs.getD i 0).toNat else s) 0
theorem setV_succ (vs : List Int) (c k : Nat) : setV vs c (k + 1) = if c.testBit k then setV vs c k ||| 2 ^ (vs.getD k 0).toNat else setV vs c k := by
  unfold setV
  rw [List.range_succ, List.foldl_append]
  rfl
theorem setV_bit {vs : List Int} {c : Nat} {x : Nat} : ∀ k, (setV vs c k).testBit x = true ↔ ∃ i, i < k ∧ c.testBit i = true ∧ (vs.getD i 0).toNat = x
  | 0 => by simp [setV]
  | k + 1 => by
    rw [setV_succ]
    have ih := setV_bit (vs := vs) (c := c) (x := x) k
    by_cases h : c.testBit k = true
    · rw [if_pos h, bit_orU, ih]
      constructor
      · rintro (⟨i, h1, h2, h3⟩ | rfl)
        · exact ⟨i, by omega, h2, h3⟩
        · exact ⟨k, by omega, h, rfl⟩
      · rintro ⟨i, h1, h2, h3⟩
        by_cases e : i = k
        · subst e; exact .inr h3.symm
        · exact .inl ⟨i, by omega, h2, h3⟩
    · rw [if_neg h, ih]
      constructor
      · rintro ⟨i, h1, h2⟩
        exact ⟨i, by omega, h2⟩
      · rintro ⟨i, h1, h2, h3⟩
        by_cases e : i = k
        · subst e; exact absurd h2 h
        · exact ⟨i, by omega, h2, h3⟩
theorem setV_lt {vs : List Int} {c : Nat} (h8 : ∀ x ∈ vs, 0 ≤ x ∧ x < 8) (k : Nat) (hk : k ≤ vs.length) : setV vs c k < 2 ^ 8 := Nat.lt_pow_two_of_testBit _ fun x hx => by
  rw [← Bool.not_eq_true, setV_bit]
  rintro ⟨i, h1, -, h3⟩
  have hi : i < vs.length := by omega
  have : vs.getD i 0 = vs[i] := by simp [List.getD, hi]
  rw [this] at h3
  have := h8 _ (List.getElem_mem hi)
  omega
/-- A clique lies within one atom. -/
def withinB (b : List Atm) (c : Nat) : Bool := b.any fun a => decide (nSub (setV (vsI b) c (vsI b).length) (varsL a.2) = 0)
theorem within_iff {b : List Atm} (hA : ∀ a ∈ b, okA a = true) {c : Nat} (hc : c < 2 ^ (vsI b).length) : withinB b c = true ↔ ∃ i, i < b.length ∧ ∀ k, c.testBit k = true → PV b i k := by
  unfold withinB
  rw [List.any_eq_true]
  have key : ∀ i (hi : i < b.length), nSub (setV (vsI b) c (vsI b).length) (varsL b[i].2) = 0 ↔ ∀ k, c.testBit k = true → PV b i k := fun i hi => by
    have z : ∀ A B : Nat, nSub A B = 0 ↔ ∀ x, A.testBit x = true → B.testBit x = true := fun A B => by
      constructor
      · intro h x hx
        refine Classical.byContradiction fun hn => ?_
        have : (nSub A B).testBit x = true := by rw [nSub_bit, hx]; simp [hn]
        rw [h] at this
        simp at this
      · intro h
        refine Nat.eq_of_testBit_eq fun x => ?_
        rw [nSub_bit, Nat.zero_testBit]
        cases hA : A.testBit x with
        | false => rfl
        | true => rw [h x hA]; rfl
    rw [z]
    constructor
    · intro h k hk
      have hkl : k < (vsI b).length := Classical.byContradiction fun hn => by
        rw [Nat.testBit_lt_two_pow (Nat.lt_of_lt_of_le hc (Nat.pow_le_pow_right (by omega) (by omega)))] at hk
        cases hk
      have e : (vsI b).getD k 0 = (vsI b)[k] := by simp [List.getD, hkl]
      have h1 := varsL_bit.1 (h ((vsI b).getD k 0).toNat ((setV_bit _).2 ⟨k, hkl, hk, rfl⟩))
      rw [e, Int.toNat_of_nonneg ((mem_vsI hA).1 (List.getElem_mem hkl)).1] at h1
      exact ⟨hi, hkl, h1⟩
    · intro h x hx
      obtain ⟨k, hkl, hk, rfl⟩ := (setV_bit _).1 hx
      obtain ⟨_, _, h1⟩ := h k hk
      have e : (vsI b).getD k 0 = (vsI b)[k] := by simp [List.getD, hkl]
      rw [varsL_bit, e, Int.toNat_of_nonneg ((mem_vsI hA).1 (List.getElem_mem hkl)).1]
      exact h1
  constructor
  · rintro ⟨a, ha, h1⟩
    obtain ⟨i, hi, rfl⟩ := List.getElem_of_mem ha
    exact ⟨i, hi, (key i hi).1 (of_decide_eq_true h1)⟩
  · rintro ⟨i, hi, h1⟩
    exact ⟨_, List.getElem_mem hi, decide_eq_true ((key i hi).2 h1)⟩
/-! ## The walk -/
theorem indexRA_c {w : World} {v f : Value} {l : List Atm} {p : Atm → Bool} (hs : SlA w v l) (hf : AsksA w f l p) : Calls Tryd.prog 32 #[v, f] w (Ret w (.int .i64 (idxOf p l))) := by
  refine f32_calls _ _ ?_
  obtain ⟨g, fst, cap, rfl, hg, hcall⟩ := hf
  have hle := SlX.len_le hs
  refine SlX.ln hs ⟨fun t w' => ∃ k : Nat, t = k ∧ k ≤ l.length ∧ Grow w w' ∧ ∀ j (hj : j < l.length), j < k → p l[j] = false, fun t _ => l.length - t.toNat, ⟨0, rfl, by omega, Grow.refl w, fun j _ h => by omega⟩, ?_⟩
  rintro - t w1 ⟨k, rfl, hk, hw, hno⟩
  refine condD (fun hlt => ?_) (fun hge => ?_)
  · have hkl : k < l.length := by omega
    refine SlX.rd (hs.gr hw) rfl hkl ?_
    rintro cs - ⟨u, rfl, hu⟩
    refine ⟨g, fst, cap, rfl, hg, ?_⟩
    refine (hcall l[k] (List.getElem_mem hkl) w1 u hw hu).mono ?_
    rintro e w2 ⟨rfl, hg2⟩
    refine ⟨_, rfl, condP_i (fun hp => ?_) (fun hp => ?_)⟩
    · exact ⟨by rw [idxOf_some hkl hp hno], hw.trans hg2⟩
    · refine ⟨by unfold inR; omega, ⟨k + 1, by omega, by omega, hw.trans hg2, fun j hj hjk => ?_⟩, by dsimp only; omega⟩
      by_cases e : j = k
      · subst e; exact hp
      · exact hno j hj (by omega)
  · exact ⟨by rw [idxOf_none fun j hj => hno j hj (by omega)], hw⟩
theorem containsRA_c {w : World} {v f : Value} {l : List Atm} {p : Atm → Bool} (hs : SlA w v l) (hf : AsksA w f l p) : Calls Tryd.prog 16 #[v, f] w (Ret w (.bool (l.any p))) := by
  refine f16_calls _ _ ?_
  refine (indexRA_c hs hf).mono ?_
  rintro e w' ⟨rfl, hg⟩
  refine ⟨_, rfl, ?_, hg⟩
  rw [idxOf_any]
theorem inAtom_c {w : World} {r : Int} {u : Value} {xs : List Int} {p : Addr} {s : Nat} (hu : SlI w u xs) (hx : ∀ x ∈ xs, -9 ≤ x ∧ x ≤ 7) (hc : w.cell? p = some (.int .i64 (s : Int))) (hs : s < 2 ^ 8) : Calls Tryd.prog 17 #[.agg #[.int .i64 r, u], .pointer (some p)] w (Ret w (.bool (decide (nSub s (varsL xs) = 0)))) := by
  refine f17_calls _ _ ⟨_, rfl, fun w1 hw1 => ?_⟩
  have g1 := alloc_grow hw1
  have hR := RecV.new hw1
  have hl := varsL_lt hx
  refine ⟨_, g1.cell hc, [_, _], rfl, hR.all, ((varsL xs : Nat) : Int), fun w5 g5 => refVars_c (hu.grow (g1.trans g5)) hx, fun w9 g9 => ⟨?_, g1.trans g9⟩⟩
  rw [iAndNot_nat (by omega) (by omega)]
  have : decide (((nSub s (varsL xs) : Nat) : Int) = 0) = decide (nSub s (varsL xs) = 0) := decide_eq_decide.2 (by omega)
  rw [this]
theorem chordalAcyclic_c {w : World} {hv bv : Value} {h : List Int} {b : List Atm} (sh : SlI w hv h) (sb : SlA w bv b) (hT : Tab w) :
    Calls Tryd.prog 4 #[.agg #[hv, bv]] w (Ret w (.bool true)) := by
  refine f4_calls _ ⟨_, rfl, fun w1 hw1 => ?_⟩
  have g1 := alloc_grow hw1
  have hQ := RecV.new hw1
  have z1 := alloc_size hw1
  have aw : ∀ {E : World}, Grow w E → Calls Tryd.prog 9 #[] E fun e w' => ∃ t : Bool, e = .returned (.bool t) ∧ Ret w (.bool true) (.returned (.bool t)) w' := fun gE => (awake_c6 (hT.grow gE)).mono (by
    rintro e w' ⟨rfl, g'⟩
    exact ⟨_, rfl, rfl, gE.trans g'⟩)
  refine ⟨[_, _], rfl, hQ.all, (ofS_c (sh.grow g1) (sb.gr g1)).mono ?_⟩
  rintro e w4 ⟨ha, ba, rfl, sa, ta, g4⟩
  refine ⟨_, rfl, (rest_c sa ta).mono ?_⟩
  rw [okQ_tr]
  rintro e w7 ⟨hR, g7⟩
  have g17 := g4.trans g7
  have g07 := g1.trans g17
  have two_ : ∀ {K : Ending → World → Prop}, (∀ e w15, (((okQ h b = true ∧ vsI (trB b) ≠ [] ∧ ∃ v G, e = .returned (.tuple #[v, .int .i64 0]) ∧ SlI w15 v (ofN G) ∧ GI (vsI (trB b)) (Rk (trB b) (trB b).length) G) ∨ ((okQ h b = false ∨ vsI (trB b) = []) ∧ e = .returned (.tuple #[.slice none 0 0, .int .i64 2])))) → Grow w7 w15 → K e w15) → ∃ cs : List Value, cs.length = 2 ∧ (∀ (j : Nat) (u : Value), cs[j]? = some u → w7.cell? (Addr.add ⟨w.heap.size, 0, none⟩ j) = some u) ∧ Calls Tryd.prog 6 #[.agg cs.toArray] w7 fun e w12 => ∃ t : Value, e = .returned t ∧ Calls Tryd.prog 5 #[t] w12 K := fun {K} hK => by
    refine ⟨[_, _], rfl, (hQ.grow g17).all, (ofS_c (sh.grow g07) (sb.gr g07)).mono ?_⟩
    rintro e w12 ⟨hb, bb, rfl, sb2, tb2, g12⟩
    refine ⟨_, rfl, (fromQ_c sb2 tb2).mono ?_⟩
    rw [okQ_tr]
    rintro e w15 ⟨hP, g15⟩
    exact hK e w15 hP (g12.trans g15)
  rcases hR with ⟨nok, rfl⟩ | ⟨ok, l2, p2, rfl, hE, hl2⟩
  · refine ⟨_, _, rfl, two_ fun e w15 hP g715 => ?_⟩
    rcases hP with ⟨ok, -⟩ | ⟨-, rfl⟩
    · rw [nok] at ok; cases ok
    · exact ⟨_, _, rfl, cT rfl (cT rfl (aw (g07.trans g715)))⟩
  obtain ⟨eb, eh⟩ := trB_of ok
  rw [eb] at hE hl2 two_
  refine ⟨_, _, rfl, two_ fun e w15 hP g715 => ?_⟩
  have g015 := g07.trans g715
  have g115 := g17.trans g715
  rcases hP with ⟨-, hne, gv, G, rfl, sg, hG⟩ | ⟨-, rfl⟩
  case inr => exact ⟨_, _, rfl, cF rfl (cT rfl (cT rfl (aw g015)))⟩
  have hA : ∀ a ∈ b, okA a = true := fun a ha => by
    have h1 := ok
    simp only [okQ, Bool.and_eq_true, List.all_eq_true] at h1
    exact h1.1.2 a ha
  have hbl := okQ_len ok
  have h79 : ∀ a ∈ b, ∀ x ∈ a.2, -9 ≤ x ∧ x ≤ 7 := fun a ha => (okA_iff.1 (hA a ha)).2.2.2.2
  have hvb := varsB_lt hA
  have hVN := vn_G hne hG
  refine ⟨_, _, rfl, cF rfl (cF rfl ⟨[_, _], rfl, (hQ.grow g115).all, (refValid_c (sh.grow g015) (sb.gr g015)).mono ?_⟩)⟩
  rintro e w26 ⟨rfl, g26⟩
  rw [ok]
  have g126 := g115.trans g26
  have g026 := g1.trans g126
  refine ⟨_, rfl, cF rfl ⟨fun v t w' => ∃ k : Nat, t = k ∧ k ≤ 8 ∧ OwnI w' w26.heap.size v (ofN ((List.range k).filter fun v => (varsB b).testBit v)) ∧ Grow w26 w', fun _ t _ => 8 - t.toNat, ⟨0, rfl, by omega, by simpa [OwnI, ofN] using Own.nil w26 w26.heap.size 3 1, Grow.refl _⟩, ?_⟩⟩
  rintro - av t w37 ⟨k, rfl, hk, ho, g37⟩
  have g037 := g026.trans g37
  refine condD (fun hlt => ?_) fun hge => ?_
  · have hk8 : k < 8 := by omega
    refine ⟨[_, _], rfl, (hQ.grow (g126.trans g37)).all, (refAll_c (sb.gr g037) hA).mono ?_⟩
    rintro e w39 ⟨rfl, g39⟩
    refine ⟨_, rfl, by omega, ?_⟩
    rw [and_bit (by omega)]
    have hcl := cntV_le b k
    have ecl : ((List.range k).filter fun v => (varsB b).testBit v).length ≤ k := hcl
    have hsu : ((List.range (k + 1)).filter fun v => (varsB b).testBit v) = ((List.range k).filter fun v => (varsB b).testBit v) ++ (if (varsB b).testBit k then [k] else []) := by
      rw [List.range_succ, List.filter_append, List.filter_cons]
      split <;> simp
    refine condP_i (fun h1 => fun w42 hw42 => ?_) fun h1 => ?_
    · have hb : (varsB b).testBit k = true := Classical.byContradiction fun hc => by
        rw [if_neg hc] at h1
        simp at h1
      rw [hb, if_pos rfl] at hsu
      refine papp1 el_int hw42 (Own.grow ho g39) rfl (by have := (g37.trans g39).size; omega) (by simp; omega) (by omega) ?_
      intro v2 w44 ho2 hf2 _
      refine ⟨by unfold inR; omega, ⟨k + 1, by omega, by omega, ?_, ((g37.trans g39).trans (alloc_grow hw42)).fr hf2 fun i hi e => by have := (Own.lt ho e.symm).1; omega⟩, by first | omega | (dsimp only; omega)⟩
      rw [hsu, ofN_app]
      unfold OwnI
      rw [List.length_append, List.map_append]
      exact ho2
    · have hb : ¬ (varsB b).testBit k = true := fun hc => by
        rw [if_pos hc] at h1
        simp at h1
      rw [if_neg hb, List.append_nil] at hsu
      exact ⟨by unfold inR; omega, ⟨k + 1, by omega, by omega, by rw [hsu]; exact Own.grow ho g39, g37.trans g39⟩, by first | omega | (dsimp only; omega)⟩
  have hk8 : k = 8 := by omega
  subst hk8
  have sav : SlI w37 av (vsI b) := Own.slI ho
  have g137 := g126.trans g37
  refine ⟨_, (hQ.grow g137).cell (j := 1) rfl, SlX.ln (sb.gr g037) ⟨fun t w' => ∃ k : Nat, t = k ∧ k ≤ b.length ∧ Grow w37 w', fun t _ => b.length - t.toNat, ⟨0, rfl, by omega, Grow.refl _⟩, ?_⟩⟩
  rintro - t w53 ⟨k, rfl, hk, g53⟩
  have g053 := g037.trans g53
  refine condD (fun hlt => ?_) fun hge => ?_
  · have hkl : k < b.length := by omega
    refine locU (sb.gr g053) (Grow.refl _) rfl hkl rfl fun w59 u g59 s59 hu c0 c1 => ?_
    refine ⟨[.int .i64 b[k].1, u], rfl, fun j y hj => ?_, (refVars_c (hu.grow g59) (h79 _ (List.getElem_mem hkl))).mono ?_⟩
    · match j, hj with
      | 0, hj => cases hj; exact c0
      | 1, hj => cases hj; exact c1
    rintro e w62 ⟨rfl, g62⟩
    exact ⟨_, rfl, condP_i (fun _ => aw (g053.trans (g59.trans g62))) fun _ => ⟨by unfold inR; omega, ⟨k + 1, by omega, by omega, g53.trans (g59.trans g62)⟩, by first | omega | (dsimp only; omega)⟩⟩
  have sg53 := sg.grow ((g26.trans g37).trans g53)
  refine (Order_c sg53 hVN (hT.grow g053)).mono ?_
  rintro e w68 ⟨ou, rfl, -, g68⟩
  refine ⟨_, _, rfl, (Cliques_c (sg53.grow g68) hVN (hT.grow (g053.trans g68))).mono ?_⟩
  rintro e w72 ⟨cv, rfl, oc, g72⟩
  have g5372 := g68.trans g72
  have g072 := g053.trans g5372
  have scl : SlI w72 cv (ofN (mcl G)) := Own.slI oc
  have sav72 := sav.grow (g53.trans g5372)
  have hml := scl.len_le
  rw [ofN_len] at hml
  have hlen := hG.len
  obtain ⟨vs, evs⟩ : ∃ vs, vs = vsI b := ⟨_, rfl⟩
  have hvs8 : vs.length ≤ 8 := by rw [evs, vsI_len]; exact vsN_len b
  have hv8 : ∀ x ∈ vs, 0 ≤ x ∧ x < 8 := fun x hx => by
    obtain ⟨h0, h1⟩ := (mem_vsI hA).1 (evs ▸ hx)
    obtain ⟨a, ha, hxa⟩ := List.mem_flatMap.1 h1
    have := h79 a ha x hxa
    omega
  have wdef : ∀ c, withinB b c = b.any fun a => decide (nSub (setV vs c vs.length) (varsL a.2) = 0) := fun c => by rw [evs]; rfl
  have sgl := (sg53.grow g5372)
  refine ⟨_, _, rfl, cF rfl (sgl.ln (sav72.ln (cF (by rw [ofN_len, hlen]; simp) (scl.ln ?_))))⟩
  rw [← evs] at sav72
  have hmc : ∀ s ∈ mcl G, s < 2 ^ vs.length := fun s hs => by
    have := (mem_mcl.1 hs).1
    rw [hlen, ← evs] at this
    exact this
  refine ⟨fun wi t w' => ∃ k : Nat, t = k ∧ k ≤ (mcl G).length ∧ wi = ((mcl G).take k).all (withinB b) ∧ Grow w72 w', fun _ t _ => (mcl G).length - t.toNat, ⟨0, rfl, by omega, by simp, Grow.refl _⟩, ?_⟩
  rintro - wi t w90 ⟨k, rfl, hk, rfl, g90⟩
  have g090 := g072.trans g90
  refine condD (fun hlt => ?_) fun hge => ?_
  · have hkl : k < (mcl G).length := by
      rw [ofN_len] at hlt
      omega
    have hki : k < (ofN (mcl G)).length := by rw [ofN_len]; exact hkl
    obtain ⟨c, ec⟩ : ∃ c, c = (mcl G)[k] := ⟨_, rfl⟩
    have eck : (ofN (mcl G))[k] = (c : Int) := by rw [ec]; simp [ofN]
    have hcl : c < 2 ^ vs.length := hmc c (ec ▸ List.getElem_mem hkl)
    have hp8 : (2 : Nat) ^ vs.length ≤ 2 ^ 8 := Nat.pow_le_pow_right (by omega) hvs8
    refine (scl.grow g90).rd rfl hki ?_
    rw [eck]
    intro w95 hw95
    have g95 := alloc_grow hw95
    have z95 := alloc_size hw95
    have bx95 := Box.new hw95
    obtain ⟨X, eX⟩ : ∃ X, X = w90.heap.size := ⟨_, rfl⟩
    rw [← eX] at bx95 ⊢
    refine ⟨⟨_, bx95.cell⟩, bx95.free, fun w96 hw96 => ?_⟩
    have bx96 : Box w96 X (.int .i64 ((setV vs c 0 : Nat) : Int)) := bx95.set hw96
    have f96 : Fr (fun i => i = X) w95 w96 := set_fr hw96
    have g9096 : Grow w90 w96 := g95.fr f96 fun i hi e => by omega
    have sav96 := sav72.grow (g90.trans g9096)
    refine sav96.ln ⟨fun t w' => ∃ j : Nat, t = j ∧ j ≤ vs.length ∧ Box w' X (.int .i64 ((setV vs c j : Nat) : Int)) ∧ Fr (fun i => i = X) w96 w', fun t _ => vs.length - t.toNat, ⟨0, rfl, by omega, bx96, Fr.refl _ _⟩, ?_⟩
    rintro - t w104 ⟨j, rfl, hj, bx, f104⟩
    have g9104 : Grow w90 w104 := g9096.fr f104 fun i hi e => by omega
    refine condD (fun hlt2 => ?_) fun hge2 => ?_
    · have hjl : j < vs.length := by omega
      have hx := hv8 _ (List.getElem_mem hjl)
      have hsu := setV_succ vs c j
      have egd : vs.getD j 0 = vs[j] := by simp [List.getD, hjl]
      rw [egd] at hsu
      refine (sav72.grow (g90.trans g9104)).rd rfl hjl ⟨by omega, ?_⟩
      rw [and_bit (by omega)]
      refine condP_i (fun h1 => fun d => ?_) fun h1 => ?_
      · have hb : c.testBit j = true := Classical.byContradiction fun hc => by
          rw [if_neg hc] at h1
          simp at h1
        rw [if_pos hb] at hsu
        obtain ⟨wd, ewd⟩ : ∃ wd, wd = dr w104 d.1 := ⟨_, rfl⟩
        have gd : Grow w104 wd := by rw [ewd]; exact (Grow.refl w104).dr d.1
        rw [← ewd]
        have bxd := bx.grow gd
        have lt1 := setV_lt (c := c) hv8 j hj
        have lt2 : (2 : Nat) ^ vs[j].toNat ≤ 2 ^ 8 := Nat.pow_le_pow_right (by omega) (by omega)
        refine ⟨by omega, _, bxd.cell, ⟨_, bxd.cell⟩, bxd.free, fun w111 hw111 => ⟨by unfold inR; omega, ⟨j + 1, by omega, by omega, ?_, (f104.trans (Fr.of_grow gd)).trans (set_fr hw111)⟩, by first | omega | (dsimp only; omega)⟩⟩
        have := bxd.set hw111
        have e : iOr .i64 ((setV vs c j : Nat) : Int) (iShl .i64 1 vs[j]) = ((setV vs c (j + 1) : Nat) : Int) := by
          obtain ⟨y, ey⟩ : ∃ y : Nat, vs[j] = (y : Int) := ⟨vs[j].toNat, by omega⟩
          rw [ey, Int.toNat_natCast] at lt2 hsu
          rw [hsu, ey, iShl_one (by omega), iOr_nat (by omega) (by omega)]
        rw [e] at this
        exact this
      · have hb : ¬ c.testBit j = true := fun hc => by
          rw [if_pos hc] at h1
          simp at h1
        rw [if_neg hb] at hsu
        exact ⟨by unfold inR; omega, ⟨j + 1, by omega, by omega, by rw [hsu]; exact bx, f104⟩, by first | omega | (dsimp only; omega)⟩
    · have hjn : j = vs.length := by omega
      subst hjn
      have g0104 := g090.trans g9104
      have hall : ((mcl G).take (k + 1)).all (withinB b) = (((mcl G).take k).all (withinB b) && withinB b c) := by
        rw [List.take_succ_eq_append_getElem hkl, List.all_append, ← ec]
        simp
      refine condP_i (fun hw => ⟨_, (hQ.grow ((((g137.trans g53).trans g5372).trans g90).trans g9104)).cell (j := 1) rfl, ?_⟩) fun hw => ?_
      · refine (containsRA_c (p := fun a => decide (nSub (setV vs c vs.length) (varsL a.2) = 0)) (sb.gr g0104) ⟨17, #[], _, rfl, rfl, fun a ha w' u gg hu => ?_⟩).mono ?_
        · rw [app1]
          exact inAtom_c hu (h79 a ha) (gg.cell bx.cell) (setV_lt hv8 _ (Nat.le_refl _))
        · rintro e w113 ⟨rfl, g113⟩
          refine ⟨_, rfl, by unfold inR; omega, ⟨k + 1, by omega, by omega, ?_, (g90.trans g9104).trans g113⟩, by first | omega | (dsimp only; omega)⟩
          rw [hall, hw, Bool.true_and, wdef]
      · refine ⟨by unfold inR; omega, ⟨k + 1, by omega, by omega, ?_, g90.trans g9104⟩, by first | omega | (dsimp only; omega)⟩
        rw [hall, hw, Bool.false_and]
  · have hkn : k = (mcl G).length := by
      rw [ofN_len] at hge
      omega
    subst hkn
    rw [List.take_length]
    have h1 := rest_singleQ hbl.1 hbl.2.1 hE hl2
    rw [ears_single hE (earI_init b), elim_PV hA, elim_iff hVN (cov_G hA hG) hbl.1] at h1
    have h2 : (∀ s ∈ mcl G, ∃ i, i < b.length ∧ ∀ k, s.testBit k = true → PV b i k) ↔ (mcl G).all (withinB b) = true := by
      rw [List.all_eq_true]
      exact forall_congr' fun s => forall_congr' fun hs => (within_iff hA (by rw [← evs]; exact hmc s hs)).symm
    rw [h2] at h1
    have d1 : decide (((restV l2 : Nat) : Int) = 0) = decide (restV l2 = 0) := decide_eq_decide.2 (by omega)
    rw [d1]
    cases ho : (ordG G).isSome with
    | true =>
      rw [ho] at h1
      refine cT rfl (cT ?_ (aw g090))
      rw [beq_iff_eq, Bool.eq_iff_iff, decide_eq_true_eq, h1]
      simp
    | false =>
      rw [ho] at h1
      refine cF rfl (cT ?_ (aw g090))
      have : ¬ restV l2 = 0 := fun h0 => by have := (h1.1 h0).1; cases this
      rw [decide_eq_false this]
      rfl
end Go.Proofs.YtleiddajojgmmaaDoor
