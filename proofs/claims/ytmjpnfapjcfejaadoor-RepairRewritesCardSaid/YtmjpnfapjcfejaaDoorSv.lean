/- Contract: the rule of Rewrite, by the reference. No condition. -/
import Derived.Test.YtmjpnfapjcfejaaDoorSt
import Derived.Test.YtmjpnfapjcfejaaDoorSi
import Derived.Test.YtmjpnfapjcfejaaDoorSn
import Derived.Test.YtmjpnfapjcfejaaDoorSb
namespace Go.Proofs.YtmjpnfapjcfejaaDoor
open Go Go.RowKit VC
set_option linter.unusedSimpArgs false
set_option linter.unusedVariables false

theorem el_ratom7 : ElT Tryd.prog 24 69 2 32 (.agg #[.int .i64 0, .slice none 0 0]) := ⟨by kernel_rfl, ⟨Tryd.t69, by kernel_rfl, by kernel_rfl, by kernel_rfl, by kernel_rfl⟩, rfl⟩
def orA (V K : List Nat) (k : Nat) : Nat := (List.range k).foldl (fun s f => s ||| atkN V K f) 0
theorem orA_succ (V K : List Nat) (k : Nat) : orA V K (k + 1) = orA V K k ||| atkN V K k := by
  unfold orA
  rw [List.range_succ, List.foldl_append]
  rfl
theorem orA_bit {V K : List Nat} {g : Nat} : ∀ k, k ≤ V.length → ((orA V K k).testBit g = true ↔ ∃ f, f < k ∧ attN V K f g = true)
  | 0, _ => by simp [orA]
  | k + 1, h => by
    rw [orA_succ, Nat.testBit_or, Bool.or_eq_true, orA_bit k (by omega), atkN_bit (by omega)]
    constructor
    · rintro (⟨f, h1, h2⟩ | h1)
      · exact ⟨f, by omega, h2⟩
      · exact ⟨k, by omega, h1⟩
    · rintro ⟨f, h1, h2⟩
      by_cases e : f = k
      · subst e; exact .inr h2
      · exact .inl ⟨f, by omega, h2⟩
theorem orA_lt {V K : List Nat} : ∀ k, k ≤ V.length → orA V K k < 2 ^ V.length
  | 0, _ => Nat.pow_pos (by omega)
  | k + 1, h => by
    rw [orA_succ]
    exact Nat.or_lt_two_pow (orA_lt k (by omega)) (atkN_lt (by omega))
theorem rewQ_c {s : List Int} {L : List Atm} (hS : okS s = true) (hR : okR s L = true) : ∀ (n : Nat) (atoms : List Atm) (m : List Int) (w : World) (sv fv lv : Value), atoms.length = n → SlI w sv s → SlA w fv L → SlA w lv atoms → (∀ a ∈ atoms, okA a = true) → keyB s atoms = true → PlainA atoms → atoms.Nodup → atoms.length ≤ 5 → m.length = 8 → PosM m → Acy (klS s) atoms (domM m) →
    Calls Tryd.prog 16 #[sv, fv, lv, .agg (encV m).toArray] w (Ret w (.bool (rewR (klS s) L n atoms m))) := by
  have hF := okR_all hR
  obtain ⟨-, h12, -, hnd, hlen⟩ := okR_out hR
  have hFp : ∀ f ∈ L, ∀ y ∈ f.2, 1 ≤ y := fun f hf y hy => (okF_iff.1 (hF f hf)).2.2.2.2 y hy |>.1
  intro n
  induction n with
  | zero =>
    intro atoms m w sv fv lv hn hs hl sl hA hK hpl hndA h5 h8 hp hac
    refine f16_calls _ _ _ _ ⟨_, rfl, fun w1 hw1 => SlX.ln sl (cT (decide_eq_true (by rw [hn]; rfl)) ⟨rfl, alloc_grow hw1⟩)⟩
  | succ n ih =>
    intro atoms m w sv fv lv hn hs hl sl hA hK hpl hndA h5 h8 hp hac
    refine f16_calls _ _ _ _ ⟨_, rfl, fun w1 hw1 => SlX.ln sl (cF (decide_eq_false (by rw [hn]; omega)) ?_)⟩
    have g1 := alloc_grow hw1
    have hM1 : RecV w1 w.heap.size (encV m) := RecV.new hw1
    refine ⟨encV m, encV_len m, hM1.all, ?_⟩
    -- the variables that have numbers
    refine ⟨fun gone t w' => ∃ k : Nat, t = k ∧ k ≤ 8 ∧ gone = (goneK m k : Nat) ∧ w' = w1, fun _ t _ => 8 - t.toNat, ⟨0, rfl, by omega, rfl, rfl⟩, ?_⟩
    rintro - gone t w12 ⟨k, rfl, hk, rfl, rfl⟩
    refine condD (fun hlt => ?_) fun hge => ?_
    · have hk8 : k < 8 := by omega
      have hgl := goneK_lt m k
      have hg2 : 2 ^ k < 2 ^ 8 := Nat.pow_lt_pow_right (by omega) hk8
      have hst := goneK_succ m k
      refine ⟨by omega, mg m k, ⟨_, rfl, ?_⟩, condP_i (fun hne => ?_) fun he => ?_⟩
      · rw [Int.toNat_natCast, Nat.mul_one]
        show (encV m).toArray[k]? = _
        rw [List.getElem?_toArray]
        exact encV_get m hk8
      · have hne : mg m k ≠ 0 := by simpa using hne
        rw [if_pos hne] at hst
        refine ⟨by omega, by unfold inR; omega, ⟨k + 1, by omega, by omega, ?_, rfl⟩, by first | omega | (dsimp only; omega)⟩
        rw [hst, iShl_one (by omega), iOr_nat (by omega) (by omega)]
      · have he : mg m k = 0 := by simpa using he
        rw [if_neg (fun h => h he)] at hst
        exact ⟨by unfold inR; omega, ⟨k + 1, by omega, by omega, by rw [hst], rfl⟩, by first | omega | (dsimp only; omega)⟩
    have hk8 : k = 8 := by omega
    subst hk8
    have hgone : goneK m 8 = goneN m := rfl
    rw [hgone]
    have hg256 := goneN_lt m
    obtain ⟨V, eV⟩ : ∃ V, V = atoms.map (VM m) := ⟨_, rfl⟩
    obtain ⟨K, eK⟩ : ∃ K, K = atoms.map (KM (klS s) m) := ⟨_, rfl⟩
    have eV2 : VG (goneN m) atoms = V := eV ▸ rfl
    have eK2 : KG s (goneN m) atoms = K := eK ▸ rfl
    have hVl : V.length = atoms.length := by rw [eV, List.length_map]
    have h32 : ∀ k, k ≤ V.length → orA V K k < 32 := fun k hk => by
      have h1 := orA_lt (V := V) (K := K) k hk
      have h2 : 2 ^ V.length ≤ 2 ^ 5 := Nat.pow_le_pow_right (by omega) (by omega)
      omega
    -- the atoms that are attacked
    refine SlX.ln sl ⟨fun all t w' => ∃ k : Nat, t = k ∧ k ≤ atoms.length ∧ all = (orA V K k : Nat) ∧ Grow w12 w', fun _ t _ => atoms.length - t.toNat, ⟨0, rfl, by omega, rfl, Grow.refl _⟩, ?_⟩
    rintro - all t w23 ⟨k, rfl, hk, rfl, g23⟩
    have g023 := g1.trans g23
    refine condD (fun hlt => ?_) fun hge => ?_
    · have hkl : k < atoms.length := by omega
      refine (attackedR_c (hs.grow g023) (sl.gr g023) hS hA h5 hK hg256 hkl).mono ?_
      rw [eV2, eK2]
      rintro e w24 ⟨rfl, g24⟩
      have h1 := h32 k (by omega)
      have h2 : atkN V K k < 2 ^ V.length := atkN_lt (by omega)
      have h3 : 2 ^ V.length ≤ 2 ^ 5 := Nat.pow_le_pow_right (by omega) (by omega)
      exact ⟨_, rfl, by unfold inR; omega, ⟨k + 1, by omega, by omega, by rw [orA_succ, iOr_nat (by omega) (by omega)], g23.trans g24⟩, by first | omega | (dsimp only; omega)⟩
    have hkn : k = V.length := by omega
    rw [hkn]
    -- the first atom that nothing attacks
    obtain ⟨hi, -, hno, hall⟩ := freeA_spec (kl := klS s) h8 hA hpl hndA hac (fun e => by subst e; simp at hn)
    rw [← eV, ← eK] at hno hall
    obtain ⟨i, ei⟩ : ∃ i, i = freeA (klS s) atoms m := ⟨_, rfl⟩
    rw [← ei] at hi hno hall
    rw [rewR_succ hi ei.symm]
    have hb0 : (orA V K V.length).testBit i = false := by
      rw [← Bool.not_eq_true, orA_bit V.length (Nat.le_refl _)]
      rintro ⟨f, hf, ha⟩
      rw [hno f (by omega)] at ha
      cases ha
    have hb1 : ∀ j, j < i → (orA V K V.length).testBit j = true := fun j hj => by
      rw [orA_bit V.length (Nat.le_refl _)]
      obtain ⟨f, hf, ha⟩ := hall j hj
      exact ⟨f, by omega, ha⟩
    refine ⟨fun at_ w' => ∃ k : Nat, at_ = k ∧ k ≤ i ∧ w' = w23, fun at_ _ => i - at_.toNat, ⟨0, rfl, by omega, rfl⟩, ?_⟩
    rintro - at_ w31 ⟨k, rfl, hki, rfl⟩
    refine ⟨by omega, condD (fun h1 => ?_) fun h1 => ?_⟩
    · have h1 := (bitR (by omega)).1 h1
      have hne : k ≠ i := by
        rintro rfl
        rw [hb0] at h1
        cases h1
      exact ⟨by unfold inR; omega, ⟨k + 1, by omega, by omega, rfl⟩, by first | omega | (dsimp only; omega)⟩
    have hki : k = i := by
      by_cases e : k = i
      · exact e
      · exact absurd ((bitR (by omega)).2 (hb1 k (by omega))) h1
    rw [hki]
    obtain ⟨a0, ea0⟩ : ∃ a0, a0 = atoms[i] := ⟨_, rfl⟩
    refine locR sl g023 rfl hi rfl fun w37 u g37 s37 hu hc d => ?_
    rw [← ea0] at hu hc ⊢
    obtain ⟨w38, e38⟩ : ∃ w38, w38 = dr w37 d.1 := ⟨_, rfl⟩
    rw [← e38]
    have gd : Grow w37 w38 := by rw [e38]; exact (Grow.refl w37).dr d.1
    have g038 := (g023.trans g37).trans gd
    have g138 := (g23.trans g37).trans gd
    obtain ⟨pa, pn, pc, pe, pl, ph, pm, pb, hs1⟩ := SlX.upto sl (ik := .i64) (z := (i : Int)) (K := fun x => SlA w x (atoms.take i)) rfl (by omega : i ≤ atoms.length) fun v' h => h
    obtain ⟨qa, qn, qc, qe, ql, qh, qm, qb, hs2⟩ := SlX.from_ sl (i := i + 1) (ik := .i64) (z := (i : Int) + 1) (K := fun x => SlA w x (atoms.drop (i + 1))) (by omega) (by omega) fun v' h => h
    refine ⟨pa, pn, pc, pe, pl, ph, pm, pb, by unfold inR; omega, qa, qn, qc, qe, ql, qh, qm, qb, bs0 el_ratom7 w38 fun w52 hw52 => ?_⟩
    have g52 := alloc_grow hw52
    have ho52 : OwnX (fun b => w38.heap.size ≤ b) 2 repA w52 w38.heap.size 69 (.slice (some ⟨w38.heap.size, 0, none⟩) 0 0) [] := ⟨[], rfl, (fun p hp => by cases hp), Own.lit (B := w38.heap.size) (n := 0) (sz := 2) hw52 (Nat.le_refl _) (by omega) (by simp)⟩
    have s038 := g038.size
    have app : ∀ {wd : World} {nv sv : Value} {l cur : List Atm} {K : Value → World → Prop}, Grow w38 wd → SlA w sv l → l.length + cur.length ≤ 10 → OwnX (fun b => w38.heap.size ≤ b) 2 repA wd w38.heap.size 69 nv cur → (∀ v' w', OwnX (fun b => w38.heap.size ≤ b) 2 repA w' w38.heap.size 69 v' (cur ++ l) → Grow w38 w' → K v' w') → PApp Tryd.prog 24 24 nv sv wd K := fun {wd nv sv l cur K} g hs hlen hc hk => by
      obtain ⟨ps, rfl, hps, hcells⟩ := SlX.cells (by omega) hs
      have g0 := g038.trans g
      refine pappX el_ratom7 (by omega) (qs := ps) hc (SlC.grow hcells g0) (fun q hq => ?_) g.size (by simp at hlen; omega) (by omega) fun v' w' ho2 hf2 _ _ => hk v' w' ho2 (g.fr hf2 fun i hi e => by have := (hc.lt e.symm).1; omega)
      obtain ⟨hq2, u, e, hu⟩ := hps q hq
      have := elx_old (T := fun b => w38.heap.size ≤ b) (out := nv) hu g0 (fun b hb => by have hb : w38.heap.size ≤ b := hb; omega) fun b hb => by have := (hc.lt hb).1; omega
      rw [← e] at this
      exact this
    refine app g52 hs1 (by simp; omega) ho52 fun v54 w55 ho55 g55 => app g55 hs2 (by simp; omega) ho55 fun v56 w57 ho57 g57 => ?_
    rw [List.nil_append, ← erase_cut] at ho57
    obtain ⟨rest, erest⟩ : ∃ rest, rest = atoms.eraseIdx i := ⟨_, rfl⟩
    rw [← erest] at ho57 ⊢
    have hov : SlA w57 v56 rest := ho57.slX
    have g057 := g038.trans g57
    have hM57 := hM1.grow (g138.trans g57)
    have hc57 := hc.grow (gd.trans g57)
    have hrm : ∀ a, a ∈ rest → a ∈ atoms := fun a ha => List.mem_of_mem_eraseIdx (erest ▸ ha)
    have hrl : rest.length = n := by rw [erest, List.length_eraseIdx, if_pos hi]; omega
    have ha0 : a0 ∈ atoms := ea0 ▸ List.getElem_mem hi
    have oA0 := okA_iff.1 (hA a0 ha0)
    have hk0 : klS s a0.1 ≤ a0.2.length := of_decide_eq_true (List.all_eq_true.1 hK a0 ha0)
    obtain ⟨hsi, hse, -⟩ := okS_get hS oA0.1 oA0.2.1
    refine SlX.ln hl ⟨fun t w' => ∃ k : Nat, t = k ∧ k ≤ L.length ∧ (∀ j, j < k → gdB (klS s) L n a0 rest m (fa L j) = false) ∧ Grow w57 w', fun t _ => L.length - t.toNat, ⟨0, rfl, by omega, fun j hj => by omega, Grow.refl _⟩, ?_⟩
    rintro - t w65 ⟨k, rfl, hk, hbad, g65⟩
    have g065 := g057.trans g65
    refine condD (fun hlt => ?_) fun hge => ?_
    rotate_left
    · have hkn : k = L.length := by omega
      have : L.any (gdB (klS s) L n a0 rest m) = false := by
        rw [← Bool.not_eq_true, List.any_eq_true]
        rintro ⟨f, hf, hg⟩
        obtain ⟨j, hj, rfl⟩ := List.getElem_of_mem hf
        rw [← fa_get hj, hbad j (by omega)] at hg
        cases hg
      exact ⟨by rw [this], g065⟩
    have hkl : k < L.length := by omega
    have hfa : fa L k = L[k] := fa_get hkl
    have oFk := okF_iff.1 (hF _ (List.getElem_mem hkl))
    refine locR hl g065 rfl hkl rfl fun w71 fu g71 s71 hfu hfc => ?_
    have g071 := g065.trans g71
    have g5771 := g65.trans g71
    have next : ∀ {w'}, Grow w71 w' → gdB (klS s) L n a0 rest m L[k] = false → inR ((k : Int) + 1) ∧ ((∃ k' : Nat, (k : Int) + 1 = k' ∧ k' ≤ L.length ∧ (∀ j, j < k' → gdB (klS s) L n a0 rest m (fa L j) = false) ∧ Grow w57 w') ∧ L.length - Int.toNat ((k : Int) + 1) < L.length - Int.toNat (k : Int)) := fun g h =>
      ⟨by unfold inR; omega, ⟨k + 1, by omega, by omega, fun j hj => by
        by_cases e : j = k
        · subst e; rw [hfa]; exact h
        · exact hbad j (by omega), g5771.trans g⟩, by omega⟩
    have noKey : keyOk (klS s) a0 m L[k] = false → gdB (klS s) L n a0 rest m L[k] = false := fun h => by rw [gdB, h, Bool.false_and]
    have hc71 := hc57.grow g5771
    refine ⟨_, hfc.cell (j := 0) rfl, _, hc71.cell (j := 0) rfl, condP_i (fun hne => next (Grow.refl _) (noKey ?_)) fun heq => ⟨_, hfc.cell (j := 1) rfl, hfu.ln ⟨_, hc71.cell (j := 1) rfl, hu.ln (condP_i (fun hne => next (Grow.refl _) (noKey ?_)) fun hle => ?_)⟩⟩⟩
    · have hne : L[k].1 ≠ a0.1 := by simpa using hne
      rw [keyOk, decide_eq_false hne]; rfl
    · have hne : L[k].2.length ≠ a0.2.length := fun e => by rw [e] at hne; simp at hne
      rw [keyOk, decide_eq_false hne]; simp
    have heq : L[k].1 = a0.1 := by simpa using heq
    have hle : L[k].2.length = a0.2.length := by simp at hle; omega
    have hkey : keyOk (klS s) a0 m L[k] = (fitR (a0.2.take (klS s a0.1)) L[k].2 m).isSome := by rw [keyOk, decide_eq_true heq, decide_eq_true hle]; rfl
    -- the key
    refine ⟨fun ok w' => ok = keyOk (klS s) a0 m L[k] ∧ Grow w71 w', fun d2 => ?_, ?_⟩
    · have gd2 : Grow w71 (dr w71 d2.1) := (Grow.refl w71).dr d2.1
      have hcd := hc71.grow gd2
      have hMd := (hM57.grow g5771).grow gd2
      have g0d := g071.trans gd2
      have fit : ∀ {wd : World}, Grow (dr w71 d2.1) wd → Calls Tryd.prog 41 #[.agg #[.int .i64 a0.1, u], .agg #[.int .i64 L[k].1, fu], .int .i64 (klS s a0.1 : Int), .agg (encV m).toArray] wd (FitQ wd (fitR (a0.2.take (klS s a0.1)) L[k].2 m)) := fun g => fitQ_c (hu.grow (g0d.trans g)) (hfu.grow (g0d.trans g)) oA0.2.2.2.2 (hFp _ (List.getElem_mem hkl)) h8 hk0 hle.symm
      refine ⟨[_, _], rfl, hcd.all, [_, _], rfl, (hfc.grow gd2).all, _, hcd.cell (j := 0) rfl, (hs.grow g0d).rd (by omega) hsi ?_⟩
      rw [hse]
      refine ⟨encV m, encV_len m, hMd.all, (fit (Grow.refl _)).mono ?_, fun w101 hw101 => (fit (alloc_grow hw101)).mono ?_⟩
      · rintro e w94 ⟨g94, m2, h82, rfl, -⟩
        refine ⟨_, _, rfl, g94, fun w98 hw98 => ?_⟩
        have := RecV.init (P := Tryd.prog) (cs := encV m2) hw98 (by rw [encV_len]; rfl) (encV_one m2) (K := fun w' => (fitR (a0.2.take (klS s a0.1)) L[k].2 m).isSome = keyOk (klS s) a0 m L[k] ∧ Grow w71 w') fun w99 g99 _ _ => ⟨hkey.symm, (gd2.trans g94).trans g99⟩
        exact this
      · rintro e w102 ⟨g102, m2, h82, rfl, -⟩
        have hr := (RecV.new hw101).grow g102
        refine ⟨_, _, rfl, g102, ?_⟩
        have := hr.store (P := Tryd.prog) (cs := encV m2) (by rw [encV_len]; rfl) (encV_one m2) (K := fun w' => (fitR (a0.2.take (klS s a0.1)) L[k].2 m).isSome = keyOk (klS s) a0 m L[k] ∧ Grow w71 w') fun w106 hf106 _ => ⟨hkey.symm, ?_⟩
        · exact this
        · exact gd2.trans (((alloc_grow hw101).trans g102).fr hf106 fun i hi e => by have e : i = (dr w71 d2.1).heap.size := e; omega)
    -- the facts of the block
    rintro - ok w109 ⟨rfl, g109⟩
    refine SlX.ln hl ⟨fun ok t w' => ∃ j : Nat, t = j ∧ j ≤ L.length ∧ ok = (keyOk (klS s) a0 m L[k] && (L.take j).all (fun g => !decide (kF (klS s) g = kF (klS s) L[k]) || oneB (klS s) L n a0 rest m g)) ∧ Grow w71 w', fun _ t _ => L.length - t.toNat, ⟨0, rfl, by omega, by simp, g109⟩, ?_⟩
    rintro - ok t w118 ⟨j, rfl, hj, hok, g118⟩
    have g0118 := g071.trans g118
    refine condD (fun hlt2 => ?_) fun hge2 => ?_
    · have hjl : j < L.length := by omega
      refine locR hl g0118 rfl hjl rfl fun w124 gu g124 s124 hgu hgc => ?_
      have g0124 := g0118.trans g124
      have g71124 := g118.trans g124
      have hstep : (keyOk (klS s) a0 m L[k] && (L.take (j + 1)).all (fun g => !decide (kF (klS s) g = kF (klS s) L[k]) || oneB (klS s) L n a0 rest m g)) = (ok && (!decide (kF (klS s) L[j] = kF (klS s) L[k]) || oneB (klS s) L n a0 rest m L[j])) := by
        rw [List.take_succ_eq_append_getElem hjl, List.all_append, hok]
        simp [Bool.and_assoc]
      have go : ∀ {w'} {b : Bool}, Grow w124 w' → b = (keyOk (klS s) a0 m L[k] && (L.take (j + 1)).all (fun g => !decide (kF (klS s) g = kF (klS s) L[k]) || oneB (klS s) L n a0 rest m g)) → inR ((j : Int) + 1) ∧ ((∃ j' : Nat, (j : Int) + 1 = j' ∧ j' ≤ L.length ∧ b = (keyOk (klS s) a0 m L[k] && (L.take j').all (fun g => !decide (kF (klS s) g = kF (klS s) L[k]) || oneB (klS s) L n a0 rest m g)) ∧ Grow w71 w') ∧ L.length - Int.toNat ((j : Int) + 1) < L.length - Int.toNat (j : Int)) := fun g h =>
        ⟨by unfold inR; omega, ⟨j + 1, by omega, by omega, h, g71124.trans g⟩, by omega⟩
      refine ⟨[_, _], rfl, (hfc.grow g71124).all, [_, _], rfl, hgc.all, (together_c (hs.grow g0124) hS oFk.1 oFk.2.1 (hfu.grow g0124) (hgu.grow g0124) fun e => hlen _ (List.getElem_mem hkl) _ (List.getElem_mem hjl) e).mono ?_⟩
      rintro e w128 ⟨rfl, g128⟩
      have g0128 := g0124.trans g128
      have g71128 := g71124.trans g128
      refine ⟨_, rfl, condD (fun hsame => ?_) fun hns => go g128 ?_⟩
      · have hsame : kF (klS s) L[j] = kF (klS s) L[k] := Eq.symm hsame
        rw [decide_eq_true hsame] at hstep
        simp only [Bool.not_true, Bool.false_or] at hstep
        have hgl : a0.2.length = L[j].2.length := by
          have h1 := hlen _ (List.getElem_mem hjl) _ (List.getElem_mem hkl) (kF_rel hsame)
          omega
        have hc128 := hc71.grow g71128
        have hM128 := (hM57.grow g5771).grow g71128
        refine ⟨[_, _], rfl, hc128.all, [_, _], rfl, (hgc.grow g128).all, _, hc128.cell (j := 1) rfl, hu.ln ⟨encV m, encV_len m, hM128.all, (fitQ_c (n := a0.2.length) (hu.grow g0128) (hgu.grow g0128) oA0.2.2.2.2 (hFp _ (List.getElem_mem hjl)) h8 (Nat.le_refl _) hgl).mono ?_⟩⟩
        rw [List.take_length]
        rintro e w138 ⟨g138', m2, h82, rfl, hm2⟩
        refine ⟨_, _, rfl, fun w142 hw142 => ?_⟩
        have := RecV.init (P := Tryd.prog) (cs := encV m2) hw142 (by rw [encV_len]; rfl) (encV_one m2) (K := fun w143 => condP ok (condP (fitR a0.2 L[j].2 m).isSome (∃ cs_v : List Value, cs_v.length = 8 ∧ (∀ j v, cs_v[j]? = some v → w143.cell? (Addr.add ⟨w138.heap.size, 0, none⟩ j) = some v) ∧ Calls Tryd.prog 16 #[sv, fv, v56, .agg cs_v.toArray] w143 fun e_v w_v => ∃ t_v : Bool, e_v = .returned (Value.bool t_v) ∧ inR ((j : Int) + 1) ∧ ((∃ j' : Nat, (j : Int) + 1 = j' ∧ j' ≤ L.length ∧ t_v = (keyOk (klS s) a0 m L[k] && (L.take j').all (fun g => !decide (kF (klS s) g = kF (klS s) L[k]) || oneB (klS s) L n a0 rest m g)) ∧ Grow w71 w_v) ∧ L.length - Int.toNat ((j : Int) + 1) < L.length - Int.toNat (j : Int))) (inR ((j : Int) + 1) ∧ ((∃ j' : Nat, (j : Int) + 1 = j' ∧ j' ≤ L.length ∧ false = (keyOk (klS s) a0 m L[k] && (L.take j').all (fun g => !decide (kF (klS s) g = kF (klS s) L[k]) || oneB (klS s) L n a0 rest m g)) ∧ Grow w71 w143) ∧ L.length - Int.toNat ((j : Int) + 1) < L.length - Int.toNat (j : Int)))) (inR ((j : Int) + 1) ∧ ((∃ j' : Nat, (j : Int) + 1 = j' ∧ j' ≤ L.length ∧ false = (keyOk (klS s) a0 m L[k] && (L.take j').all (fun g => !decide (kF (klS s) g = kF (klS s) L[k]) || oneB (klS s) L n a0 rest m g)) ∧ Grow w71 w143) ∧ L.length - Int.toNat ((j : Int) + 1) < L.length - Int.toNat (j : Int)))) fun w143 g143 s143 hr143 => ?_
        · exact this
        have g124143 := (g128.trans g138').trans g143
        refine condP_i (fun hw => condP_i (fun hs1 => ?_) fun hs1 => go g124143 ?_) fun hw => go g124143 ?_
        · obtain ⟨m', hm'⟩ := Option.isSome_iff_exists.1 hs1
          obtain rfl := hm2 m' hm'
          have hone : oneB (klS s) L n a0 rest m L[j] = rewR (klS s) L n rest m2 := by rw [oneB, hm']
          rw [hone, hw, Bool.true_and] at hstep
          have hx7 : ∀ x ∈ a0.2, x ≤ 7 := fun x hx => (oA0.2.2.2.2 x hx).2
          have hy1 := hFp _ (List.getElem_mem hjl)
          obtain ⟨k8, keep, -, dom⟩ := fitR_sound hx7 hy1 h8 (by omega) hm'
          have g0143 := (g0128.trans g138').trans g143
          have hrest : ∀ a, a ∈ rest ↔ a ∈ atoms ∧ a ≠ a0 := fun a => by rw [erest, erase_mem hndA hi, ea0]
          have hac' : Acy (klS s) rest (domM m2) := (hac.sub hrest).congr fun x => dom x
          refine ⟨encV m2, encV_len m2, hr143.all, (ih rest m2 w143 sv fv v56 hrl (hs.grow g0143) (hl.gr g0143) (hov.gr (((g5771.trans g71128).trans g138').trans g143)) (fun a ha => hA a (hrm a ha)) ?_ ?_ ?_ (by omega) k8 (posM_fit hx7 hy1 h8 hp (by omega) hm') hac').mono ?_⟩
          · exact List.all_eq_true.2 fun a ha => List.all_eq_true.1 hK a (hrm a ha)
          · exact fun a ha b hb e => hpl a (hrm a ha) b (hrm b hb) e
          · rw [erest]
            exact List.Pairwise.sublist (List.eraseIdx_sublist ..) hndA
          · rintro e w146 ⟨rfl, g146⟩
            exact ⟨_, rfl, go (g124143.trans g146) hstep.symm⟩
        · have hno : fitR a0.2 L[j].2 m = none := by
            cases ho : fitR a0.2 L[j].2 m with
            | none => rfl
            | some m' => rw [ho] at hs1; cases hs1
          rw [hstep, oneB, hno, Bool.and_false]
        · rw [hstep, hw, Bool.false_and]
      · rw [hstep, decide_eq_false fun e => hns (Eq.symm e)]
        simp
    · have hjn : j = L.length := by omega
      rw [hjn, List.take_length] at hok
      have hgd : gdB (klS s) L n a0 rest m L[k] = ok := by rw [gdB, hok]
      refine condP_i (fun hw => ⟨?_, g0118⟩) fun hw => next g118 (by rw [hgd, hw])
      have : L.any (gdB (klS s) L n a0 rest m) = true := List.any_eq_true.2 ⟨L[k], List.getElem_mem hkl, by rw [hgd, hw]⟩
      rw [this]
end Go.Proofs.YtmjpnfapjcfejaaDoor

/- Contract: Rewrite. The table of bits is laid (Tab). -/
namespace Go.Proofs.YtmjpnfapjcfejaaDoor
open Go Go.RowKit VC
set_option linter.unusedSimpArgs false
set_option linter.unusedVariables false

/-- What Rewrite returns. -/
def rewO (s h : List Int) (b L : List Atm) : Bool × Int :=
  if okR s L = true ∧ h.length = 0 then (if askN s h b = 0 then (if mutB (varsOf b) (keysOf s b) = true then (false, 7) else (rewR (klS s) L b.length b m0, 0)) else (false, askN s h b)) else (false, 2)
theorem vars_m0 (b : List Atm) : b.map (VM m0) = varsOf b := by
  have := VG_0 b
  rw [← goneN_m0] at this
  exact this
theorem keys_m0 (s : List Int) (b : List Atm) : b.map (KM (klS s) m0) = keysOf s b := by
  have := KG_0 s b
  rw [← goneN_m0] at this
  exact this
theorem vk_m0 {s : List Int} {b : List Atm} (hA : ∀ a ∈ b, okA a = true) : VK_ (klS s) b (domM m0) (varsOf b) (keysOf s b) := by
  have := vk_of (kl := klS s) (m := m0) rfl hA
  rwa [vars_m0, keys_m0] at this
theorem acy_m0 {s : List Int} {b : List Atm} (hA : ∀ a ∈ b, okA a = true) (hP : plnB b = true) : Acy (klS s) b (domM m0) ↔ mutB (varsOf b) (keysOf s b) = false := by
  rw [acy_mut (vk_m0 hA) (plnB_iff hP).1 (plnB_iff hP).2, ← Bool.not_eq_true, mutB_iff]
theorem rank_m0 {s : List Int} {b : List Atm} (hA : ∀ a ∈ b, okA a = true) (hP : plnB b = true) : ¬ mutN (varsOf b) (keysOf s b) → ∃ rk : Nat → Nat, ∀ f g, f < (varsOf b).length → g < (varsOf b).length → attN (varsOf b) (keysOf s b) f g = true → rk f < rk g :=
  rank_or (vk_m0 hA) (plnB_iff hP).1 (plnB_iff hP).2
theorem RewriteP_c {w : World} {sv fv hv bv : Value} {s h : List Int} {b L : List Atm} (hs : SlI w sv s) (hl : SlA w fv L) (hh : SlI w hv h) (hb : SlA w bv b) (hT : Tab w) :
    Calls Tryd.prog 6 #[sv, fv, .agg #[hv, bv]] w (Ret w (.tuple #[.bool (rewO s h b L).1, .int .i64 (rewO s h b L).2])) := by
  refine f6_calls _ _ _ ⟨_, rfl, fun w1 hw1 => ?_⟩
  have g1 := alloc_grow hw1
  have hQ := RecV.new hw1
  refine (read_c (hs.grow g1) (hl.gr g1)).mono ?_
  rintro e w3 ⟨x, y, rfl, ox, oy, hxy, g3⟩
  have g03 := g1.trans g3
  have no : ∀ {w'} {z : Int}, Grow w w' → rewO s h b L = (false, z) → Ret w (.tuple #[.bool (rewO s h b L).1, .int .i64 (rewO s h b L).2]) (.returned (.tuple #[.bool false, .int .i64 z])) w' := fun g e => ⟨by rw [e], g⟩
  refine ⟨_, _, rfl, fun w7 hw7 => RecV.init (cs := [x, y]) hw7 rfl (by
    intro u hu
    simp at hu
    rcases hu with rfl | rfl
    · exact ox.2
    · exact oy.2) fun w8 g8 s8 hB => ?_⟩
  have g18 := g3.trans g8
  have g08 := g1.trans g18
  refine condP_i (fun hn => no g08 ?_) fun hok => ?_
  · have hn : ¬ okR s L = true := by simpa using hn
    rw [rewO, if_neg fun h => hn h.1]
  have hok : okR s L = true := by simpa using hok
  obtain ⟨rfl, rfl⟩ := hxy hok
  have hQ8 := hQ.grow g18
  refine ⟨_, hQ8.cell (j := 0) rfl, hh.ln (condD (fun hpos => no g08 ?_) fun hz => ?_)⟩
  · rw [rewO, if_neg fun h => by omega]
  have hz : h.length = 0 := by omega
  have e1 : rewO s h b L = (if askN s h b = 0 then (if mutB (varsOf b) (keysOf s b) = true then (false, 7) else (rewR (klS s) L b.length b m0, 0)) else (false, askN s h b)) := by rw [rewO, if_pos ⟨hok, hz⟩]
  refine ⟨[_, _], rfl, hQ8.all, (askedN_c (hs.grow g08) (hh.grow g08) (hb.gr g08)).mono ?_⟩
  rintro e w15 ⟨rfl, g15⟩
  have g115 := g18.trans g15
  have g015 := g1.trans g115
  refine ⟨_, rfl, condP_i (fun hne => no g015 ?_) fun h0 => ?_⟩
  · have hne : ¬ askN s h b = 0 := by simpa using hne
    rw [e1, if_neg hne]
  have h0 : askN s h b = 0 := by simpa using h0
  rw [if_pos h0] at e1
  obtain ⟨hS, hq, hK, hP⟩ := askN_ok h0
  have hA := okQ_all hq
  have h5 := (okQ_len hq).2.1
  intro d
  have gd : Grow w15 (dr w15 d.1) := (Grow.refl w15).dr d.1
  have g1d := g115.trans gd
  have g0d := g1.trans g1d
  have hQd := hQ.grow g1d
  refine ⟨[_, _], rfl, hQd.all, _, hQd.cell (j := 1) rfl, SlX.ln hb ((attacks_c (hs.grow g0d) (hb.gr g0d) hS hA h5 hK).mono ?_)⟩
  rintro e w24 ⟨av, rfl, hav, g24⟩
  have hVl : (varsOf b).length = b.length := by simp [varsOf]
  have g0_24 := g0d.trans g24
  have hci := circle_c (V := varsOf b) (K := keysOf s b) (Own.slR hav) (by omega) (rank_m0 hA hP)
  rw [hVl] at hci
  refine ⟨_, rfl, g24, hci.mono ?_⟩
  rintro e w27 ⟨rfl, g27⟩
  have g0_27 := g0_24.trans g27
  refine ⟨_, rfl, g27, condP_i (fun hm => no g0_27 ?_) fun hm => ?_⟩
  · rw [e1, if_pos hm]
  rw [if_neg (by rw [hm]; decide)] at e1
  intro d2
  have gd2 : Grow w27 (dr w27 d2.1) := (Grow.refl w27).dr d2.1
  have g1d2 := ((g1d.trans g24).trans g27).trans gd2
  have g0d2 := g1.trans g1d2
  have g8d2 := (((g15.trans gd).trans g24).trans g27).trans gd2
  refine ⟨[_, _], rfl, (hB.grow g8d2).all, [_, _], rfl, (hQ.grow g1d2).all, (body_c (hb.gr g0d2) hA h5).mono ?_⟩
  rintro e w33 ⟨lv, rfl, hlv, g33⟩
  have g033 := g0d2.trans g33
  refine ⟨_, rfl, g33, (certR_c hS hok b.length b m0 w33 _ _ lv rfl (hs.grow g033) (hl.gr g033) hlv (hT.grow g033) hA hK (plnB_iff hP).1 (plnB_iff hP).2 h5 rfl posM_m0 ((acy_m0 hA hP).2 hm)).mono ?_⟩
  rintro e w36 ⟨rfl, g36⟩
  exact ⟨_, rfl, g36, by rw [e1], g033.trans g36⟩
theorem rewO_tr (s h : List Int) (b L : List Atm) : rewO (s.take 9) (h.take 9) (trB b) (trF L) = rewO s h b L := by
  unfold rewO
  rw [okR_tr, askN_tr]
  have hz : (h.take 9).length = 0 ↔ h.length = 0 := by rw [List.length_take]; omega
  by_cases h1 : okR s L = true ∧ h.length = 0
  · rw [if_pos (c := okR s L = true ∧ (h.take 9).length = 0) ⟨h1.1, hz.2 h1.2⟩, if_pos h1]
    by_cases h0 : askN s h b = 0
    · rw [if_pos h0, if_pos h0]
      obtain ⟨hS, hq, hK, hP⟩ := askN_ok h0
      rw [(trB_of hq).1, okS_take hS, (okR_trF h1.1).1]
    · rw [if_neg h0, if_neg h0]
  · rw [if_neg (c := okR s L = true ∧ (h.take 9).length = 0) fun h2 => h1 ⟨h2.1, hz.1 h2.2⟩, if_neg h1]
end Go.Proofs.YtmjpnfapjcfejaaDoor
