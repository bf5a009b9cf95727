/- Contracts of the reference: what comes before, rising lists of slices, keys of facts, what fits. No condition. -/
import Derived.Test.YtmjpnfapjcfejaaGreatDoorMj
import Derived.Test.YtmjpnfapjcfejaaGreatDoorMl
import Derived.Laws.BitsLemmas
namespace Go.Proofs.YtmjpnfapjcfejaaGreatDoor
open Go Go.RowKit VC
set_option linter.unusedSimpArgs false
set_option linter.unusedVariables false

theorem before_c {w : World} {u v : Value} {xs ys : List Int} (hx : SlI w u xs) (hy : SlI w v ys) : Calls Tryz.prog 94 #[u, v] w (Same w (.bool (decide (cmpL xs ys < 0)))) := by
  refine f94_calls _ _ ?_
  have h1 := hx.len_le
  have h2 := hy.len_le
  refine hx.ln ⟨fun t w' => ∃ k : Nat, t = k ∧ k ≤ xs.length ∧ k ≤ ys.length ∧ w' = w ∧ cmpL xs ys = cmpL (xs.drop k) (ys.drop k), fun t _ => xs.length - t.toNat, ⟨0, rfl, by omega, by omega, rfl, rfl⟩, ?_⟩
  rintro - t w1 ⟨k, rfl, hk, hk2, rfl, he⟩
  have ret : ∀ {b : Bool}, decide (cmpL xs ys < 0) = b → Same w1 (.bool (decide (cmpL xs ys < 0))) (.returned (.bool b)) w1 := fun h => ⟨by rw [h], rfl⟩
  refine condD (fun hlt => ?_) (fun hge => ?_)
  · have hkl : k < xs.length := by omega
    rw [List.drop_eq_getElem_cons hkl] at he
    refine hx.rd rfl hkl (hy.ln (condD (fun h => ret ?_) fun h => ?_))
    · have : ys.drop k = [] := List.drop_eq_nil_of_le (by omega)
      rw [this] at he
      rw [he]; rfl
    · have hkl2 : k < ys.length := by omega
      rw [List.drop_eq_getElem_cons hkl2, cmpL] at he
      refine hy.rd rfl hkl2 (condD (fun h3 => ret ?_) fun h3 => hy.rd rfl hkl2 (condD (fun h4 => ret ?_) fun h4 => ?_))
      · have e : cmpI xs[k] ys[k] = 1 := by unfold cmpI; rw [if_neg (by omega), if_pos h3]
        rw [he, e]; rfl
      · have e : cmpI xs[k] ys[k] = -1 := by unfold cmpI; rw [if_pos h4]
        rw [he, e]; rfl
      · have e : cmpI xs[k] ys[k] = 0 := by unfold cmpI; rw [if_neg (by omega), if_neg (by omega)]
        rw [if_pos e] at he
        exact ⟨by unfold inR; omega, ⟨k + 1, by omega, by omega, by omega, rfl, he⟩, by dsimp only; omega⟩
  · have hkl : k = xs.length := by omega
    subst hkl
    rw [List.drop_length] at he
    refine hx.ln (hy.ln (ret ?_))
    rw [he]
    rcases Nat.lt_or_ge xs.length ys.length with h | h
    · rw [List.drop_eq_getElem_cons h]
      have : decide ((xs.length : Int) < ys.length) = true := decide_eq_true (by omega)
      rw [this]; rfl
    · rw [List.drop_eq_nil_of_le h]
      have : decide ((xs.length : Int) < ys.length) = false := decide_eq_false (by omega)
      rw [this]; rfl
theorem refEqual_c {w : World} {u v : Value} {xs ys : List Int} (hx : SlI w u xs) (hy : SlI w v ys) : Calls Tryz.prog 67 #[u, v] w (Same w (.bool (decide (xs = ys)))) := by
  refine f67_calls _ _ ?_
  have hz := cmpL_zero (xs := xs) (ys := ys)
  have hw := cmpL_swap xs ys
  refine (before_c hx hy).mono ?_
  rintro e w1 ⟨rfl, rfl⟩
  refine ⟨_, rfl, condP_i (fun h => ?_) fun h => ?_⟩
  · have h : ¬ cmpL xs ys < 0 := by simpa using h
    refine (before_c hy hx).mono ?_
    rintro e w2 ⟨rfl, rfl⟩
    refine ⟨_, rfl, ?_, rfl⟩
    congr 2
    by_cases h2 : cmpL ys xs < 0
    · have : ¬ xs = ys := fun e => by have := hz.2 e; omega
      simp [h2, this]
    · have : xs = ys := hz.1 (by omega)
      rw [decide_eq_true this, decide_eq_false h2]; rfl
  · have h : cmpL xs ys < 0 := by simpa using h
    refine ⟨?_, rfl⟩
    have : ¬ xs = ys := fun e => by have := hz.2 e; omega
    rw [decide_eq_false this]
theorem half {a : Nat} (h : a < 4611686018427387904) : IntKind.wrap .i64 (Int.tdiv (a : Int) 2) = ((a / 2 : Nat) : Int) := by
  rw [Int.tdiv_eq_ediv_of_nonneg (by omega), IntKind.wrap_i64]; omega
/-! ## Parts of a slice -/
section
variable {α : Type} {k : Nat} {rep : World → List Value → α → Prop}
theorem SlX.upto {w : World} {v : Value} {xs : List α} (h : SlX k rep w v xs) {i : Nat} {ik : IntKind} {z : Int} (hz : z = (i : Int)) (hi : i ≤ xs.length) {K : Value → Prop} (hk : ∀ v', SlX k rep w v' (xs.take i) → K v') :
    ∃ (a : Option Addr) (n c : Nat), v = .slice a n c ∧ ∃ l hh m : Nat, sbR none (some (.int ik z)) none n c l hh m ∧ K (.slice (if m = l then a else a.map (·.add (l * k))) (hh - l) (m - l)) := by
  subst hz
  obtain ⟨a, c, rfl, h1, h2, h3, h4⟩ := h.ex
  have hl : (xs.take i).length = i := by simp; omega
  refine ⟨a, _, c, rfl, 0, i, c, ⟨rfl, rfl, rfl, by simp, by omega, by omega, by omega⟩, hk _ ⟨a, c, ?_, by omega, h2, h3, fun j hj => ?_⟩⟩
  · rw [hl]
    by_cases hc : c = 0
    · simp [hc]
    · rw [if_neg hc]
      cases a <;> simp [Addr.add]
  · obtain ⟨b, cs, e1, e2, e3, e4⟩ := h4 j (by omega)
    exact ⟨b, cs, e1, e2, e3, by rw [List.getElem_take]; exact e4⟩
theorem SlX.from_ {w : World} {v : Value} {xs : List α} (h : SlX k rep w v xs) {i : Nat} {ik : IntKind} {z : Int} (hz : z = (i : Int)) (hi : i ≤ xs.length) {K : Value → Prop} (hk : ∀ v', SlX k rep w v' (xs.drop i) → K v') :
    ∃ (a : Option Addr) (n c : Nat), v = .slice a n c ∧ ∃ l hh m : Nat, sbR (some (.int ik z)) none none n c l hh m ∧ K (.slice (if m = l then a else a.map (·.add (l * k))) (hh - l) (m - l)) := by
  subst hz
  obtain ⟨a, c, rfl, h1, h2, h3, h4⟩ := h.ex
  have hl : (xs.drop i).length = xs.length - i := by simp
  refine ⟨a, _, c, rfl, i, xs.length, c, ⟨rfl, rfl, rfl, by simp, by omega, by omega, by omega⟩, hk _ ⟨if c = i then a else a.map (·.add (i * k)), c - i, by rw [hl], by omega, by omega, ?_, fun j hj => ?_⟩⟩
  · intro hn
    split at hn
    · rename_i hc; omega
    · have : a = none := by cases a <;> simp at hn ⊢
      have := h3 this; omega
  · obtain ⟨b, cs, e1, e2, e3, e4⟩ := h4 (i + j) (by omega)
    refine ⟨b.add (i * k), cs, ?_, e2, fun t u ht => ?_, by rw [List.getElem_drop]; exact e4⟩
    · rw [if_neg (by omega), e1]; rfl
    · rw [add_add, ← Nat.add_assoc, ← Nat.add_mul]
      exact e3 t u ht
end
/-! ## Put -/
/-- A slice of ints, as an element, that reads as long as of what was there nothing but S turns. -/
def repIS (S : Nat → Prop) (w : World) (cs : List Value) (x : List Int) : Prop := ∀ w', Fr S w w' → repI w' cs x
theorem repIS_mono (S : Nat → Prop) : Mono (repIS S) := fun w w' cs x hg h w2 hf => h w2 ((Fr.of_grow hg).trans hf)
abbrev SlS (S : Nat → Prop) (w : World) (v : Value) (l : List (List Int)) : Prop := SlX 1 (repIS S) w v l
theorem SlX.imp {α : Type} {k : Nat} {rep rep' : World → List Value → α → Prop} {w : World} {v : Value} {xs : List α} (h : SlX k rep w v xs) (hi : ∀ cs x, rep w cs x → rep' w cs x) : SlX k rep' w v xs := by
  obtain ⟨a, c, e, h1, h2, h3, h4⟩ := h.ex
  exact ⟨a, c, e, h1, h2, h3, fun i hi' => by
    obtain ⟨b, cs, e1, e2, e3, e4⟩ := h4 i hi'
    exact ⟨b, cs, e1, e2, e3, hi _ _ e4⟩⟩
theorem SlS.slL {S : Nat → Prop} {w : World} {v : Value} {l : List (List Int)} (h : SlS S w v l) : SlL w v l := SlX.imp h fun cs x hx => hx w (Fr.refl _ _)
abbrev OwnB (S : Nat → Prop) (B0 : Nat) (w : World) (v : Value) (xs : List (List Int)) : Prop := OwnX (fun b => B0 ≤ b ∨ S b) 1 repI w B0 22 v xs
/-- Slices that were there before B0, or newer ones that stand still, are appended. -/
theorem appL {S : Nat → Prop} {w0 w : World} {v s : Value} {xs : List (List Int)} {qs : List (List Value × List Int)} (g : Grow w0 w) (ho : OwnB S w0.heap.size w v xs) (hq : ∀ q ∈ qs, q.1.length = 1 ∧ ∀ w', Fr S w0 w' → repI w' q.1 q.2) (hs : SlC w s qs.length (qs.flatMap Prod.fst)) (hlen : xs.length + qs.length ≤ 1000000) {K : Value → World → Prop}
    (hk : ∀ v' w', OwnB S w0.heap.size w' v' (xs ++ qs.map Prod.snd) → Grow w0 w' → FrO v w w' → K v' w') : PApp Tryz.prog 48 48 v s w K := by
  refine pappX el_row (by omega) ho hs (fun q hq' => ⟨(hq q hq').1, ?_, fun w' hf => ?_⟩) g.size (by omega) (by omega) ?_
  · obtain ⟨u, h1, hu⟩ := (hq q hq').2 w0 (Fr.refl _ _)
    intro y hy
    rw [h1] at hy
    obtain rfl : y = u := by simpa using hy
    exact hu.one.2
  · refine (hq q hq').2 w' (Fr.mono ((Fr.of_grow g).trans hf) fun k hk e => ?_)
    rcases e with (e | e) | e
    · omega
    · exact e
    · have := (ho.lt e.symm).1; omega
  · intro v' w' ho' hf' _ _
    exact hk v' w' ho' (g.fr hf' fun i hi e => by have := (ho.lt e.symm).1; omega) hf'
theorem put_s {S : Nat → Prop} {w : World} {lv xv : Value} {L : List (List Int)} {xs : List Int} (hS : ∀ k, S k → k < w.heap.size) (hLS : SlS S w lv L) (hst : StrK id L) (hxS : ∀ w', Fr S w w' → SlI w' xv xs) (hlen : L.length ≤ 100000) : Calls Tryz.prog 93 #[lv, xv] w fun e w' => ∃ v, e = .returned v ∧ SlS S w' v (insK id xs L) ∧ Grow w w' := by
  have hL : SlL w lv L := SlS.slL hLS
  have hx : SlI w xv xs := hxS w (Fr.refl _ _)
  refine f93_calls _ _ ?_
  refine SlX.ln hL ⟨fun low high w' => ∃ a b : Nat, low = a ∧ high = b ∧ a ≤ b ∧ b ≤ L.length ∧ w' = w ∧ (∀ y ∈ L.take a, cmpL y xs < 0) ∧ ∀ y ∈ L.drop b, cmpL xs y ≤ 0, fun low high _ => high.toNat - low.toNat, ⟨0, L.length, rfl, rfl, by omega, by omega, rfl, by simp, by simp⟩, ?_⟩
  rintro - low high w9 ⟨a, b, rfl, rfl, hab, hb, rfl, hlo, hhi⟩
  have mono : ∀ {i j : Nat} (hi : i < L.length) (hj : j < L.length), i < j → cmpL L[i] L[j] < 0 := fun {i j} hi hj hij => List.pairwise_iff_getElem.1 hst i j hi hj hij
  refine condD (fun hlt => ?_) (fun hge => ?_)
  · have e1 : (a : Int) + b = ((a + b : Nat) : Int) := by omega
    rw [e1, half (by omega)]
    obtain ⟨c, hc⟩ : ∃ c, c = (a + b) / 2 := ⟨_, rfl⟩
    rw [← hc]
    have hcl : c < L.length := by omega
    refine ⟨by unfold inR; omega, by omega, SlL.rd1 hL rfl hcl fun u hu => (before_c hu hx).mono ?_⟩
    rintro e w14 ⟨rfl, rfl⟩
    refine ⟨_, rfl, condD (fun h => ?_) fun h => ?_⟩
    · refine ⟨by unfold inR; omega, ⟨c + 1, b, by omega, rfl, by omega, hb, rfl, fun y hy => ?_, hhi⟩, by dsimp only; omega⟩
      obtain ⟨i, hi, rfl⟩ := List.mem_iff_getElem.1 hy
      have hil : i < c + 1 := by
        have := hi
        simp at this; omega
      rw [List.getElem_take]
      rcases Nat.lt_or_ge i c with h2 | h2
      · exact cmpL_lt_trans (mono _ hcl h2) h
      · have : i = c := by omega
        subst this; exact h
    · refine ⟨⟨a, c, rfl, rfl, by omega, by omega, rfl, hlo, fun y hy => ?_⟩, by dsimp only; omega⟩
      obtain ⟨i, hi, rfl⟩ := List.mem_iff_getElem.1 hy
      have hil : c + i < L.length := by
        have := hi
        simp at this; omega
      rw [List.getElem_drop]
      have h3 := cmpL_swap L[c] xs
      rcases Nat.eq_zero_or_pos i with h2 | h2
      · subst h2
        simp only [Nat.add_zero]
        omega
      · have := mono hcl hil (by omega)
        exact (cmpL_trans (xs := xs) (ys := L[c]) (zs := L[c + i]) (by omega) (by omega))
  · have : b = a := by omega
    subst this
    have fin : ∀ {w1 : World} {m : DM w1}, Grow w9 w1 → (∀ y ∈ L.drop b, cmpL xs y < 0) → ∃ (a_v28 : Option Addr) (n_v29 c_v30 : Nat), lv = Value.slice a_v28 n_v29 c_v30 ∧ ∃ l_v31 h_v32 m_v33 : Nat, sbR none (some (Value.int .i64 (b : Int))) none n_v29 c_v30 l_v31 h_v32 m_v33 ∧ ∃ (a_v34 : Option Addr) (n_v35 c_v36 : Nat), lv = Value.slice a_v34 n_v35 c_v36 ∧ ∃ l_v37 h_v38 m_v39 : Nat, sbR (some (Value.int .i64 (b : Int))) none none n_v35 c_v36 l_v37 h_v38 m_v39 ∧ (∀ w_v40, w_v40 = (dr w1 m.1).alloc (.cells #[] 22) → (PApp Tryz.prog 48 48 (Value.slice (some ⟨(dr w1 m.1).heap.size, 0, none⟩) 0 0) (Value.slice (if m_v33 = l_v31 then a_v28 else a_v28.map (·.add (l_v31 * 1))) (h_v32 - l_v31) (m_v33 - l_v31)) w_v40 fun t_v41 w_v42 => oneV xv ∧ ∀ w_v43, w_v43 = w_v42.alloc (.cells #[xv] 22) → PApp Tryz.prog 48 48 t_v41 (Value.slice (some ⟨w_v42.heap.size, 0, none⟩) 1 1) w_v43 fun t_v44 w_v45 => PApp Tryz.prog 48 48 t_v44 (Value.slice (if m_v39 = l_v37 then a_v34 else a_v34.map (·.add (l_v37 * 1))) (h_v38 - l_v37) (m_v39 - l_v37)) w_v45 fun t_v46 w_v47 => ∃ v, Ending.returned t_v46 = .returned v ∧ SlS S w_v47 v (insK id xs L) ∧ Grow w9 w_v47) ∧ (oneV xv ∧ ∀ w_v48, w_v48 = w_v40.alloc (.cells #[xv] 22) → PApp Tryz.prog 48 48 (Value.slice (some ⟨(dr w1 m.1).heap.size, 0, none⟩) 0 0) (Value.slice (if m_v33 = l_v31 then a_v28 else a_v28.map (·.add (l_v31 * 1))) (h_v32 - l_v31) (m_v33 - l_v31)) w_v48 fun t_v49 w_v50 => PApp Tryz.prog 48 48 t_v49 (Value.slice (some ⟨w_v40.heap.size, 0, none⟩) 1 1) w_v50 fun t_v51 w_v52 => PApp Tryz.prog 48 48 t_v51 (Value.slice (if m_v39 = l_v37 then a_v34 else a_v34.map (·.add (l_v37 * 1))) (h_v38 - l_v37) (m_v39 - l_v37)) w_v52 fun t_v53 w_v54 => ∃ v, Ending.returned t_v53 = .returned v ∧ SlS S w_v54 v (insK id xs L) ∧ Grow w9 w_v54)) ∧ (oneV xv ∧ ∀ w_v55, w_v55 = (dr w1 m.1).alloc (.cells #[xv] 22) → ∀ w_v56, w_v56 = w_v55.alloc (.cells #[] 22) → PApp Tryz.prog 48 48 (Value.slice (some ⟨w_v55.heap.size, 0, none⟩) 0 0) (Value.slice (if m_v33 = l_v31 then a_v28 else a_v28.map (·.add (l_v31 * 1))) (h_v32 - l_v31) (m_v33 - l_v31)) w_v56 fun t_v57 w_v58 => PApp Tryz.prog 48 48 t_v57 (Value.slice (some ⟨(dr w1 m.1).heap.size, 0, none⟩) 1 1) w_v58 fun t_v59 w_v60 => PApp Tryz.prog 48 48 t_v59 (Value.slice (if m_v39 = l_v37 then a_v34 else a_v34.map (·.add (l_v37 * 1))) (h_v38 - l_v37) (m_v39 - l_v37)) w_v60 fun t_v61 w_v62 => ∃ v, Ending.returned t_v61 = .returned v ∧ SlS S w_v62 v (insK id xs L) ∧ Grow w9 w_v62) := by
      intro w1 m g1 hhi2
      have eq := ins_at key_id hst (x := xs) hb (fun y hy => hlo y hy) (fun y hy => hhi2 y hy)
      have gD : Grow w9 (dr w1 m) := g1.dr m
      have hSD : ∀ k, S k → k < (dr w1 m).heap.size := fun k hk => Nat.lt_of_lt_of_le (hS k hk) gD.size
      have fD : ∀ {w'}, Fr S (dr w1 m) w' → Fr S w9 w' := fun hf => (Fr.of_grow gD).trans hf
      obtain ⟨a1, n1, c1, e1, l1, h1, m1, b1, hpv⟩ := SlX.upto (k := 1) (ik := .i64) (z := (b : Int)) (K := fun x => SlS S w9 x (L.take b)) hLS rfl hb fun _ h => h
      obtain ⟨a2, n2, c2, e2, l2, h2, m2, b2, hsv⟩ := SlX.from_ (k := 1) (ik := .i64) (z := (b : Int)) (K := fun x => SlS S w9 x (L.drop b)) hLS rfl hb fun _ h => h
      refine ⟨a1, n1, c1, e1, l1, h1, m1, b1, a2, n2, c2, e2, l2, h2, m2, b2, ?_⟩
      obtain ⟨pv, epv⟩ : ∃ pv, pv = (Value.slice (if m1 = l1 then a1 else a1.map (·.add (l1 * 1))) (h1 - l1) (m1 - l1)) := ⟨_, rfl⟩
      obtain ⟨sv, esv⟩ : ∃ sv, sv = (Value.slice (if m2 = l2 then a2 else a2.map (·.add (l2 * 1))) (h2 - l2) (m2 - l2)) := ⟨_, rfl⟩
      rw [← epv, ← esv]
      rw [← epv] at hpv
      rw [← esv] at hsv
      obtain ⟨ps, hps, hp1, hp2⟩ := SlX.cells (by omega) (SlX.grow (repIS_mono S) hpv gD)
      obtain ⟨ss, hss, hs1, hs2⟩ := SlX.cells (by omega) (SlX.grow (repIS_mono S) hsv gD)
      have lp : ps.length = b := by rw [← List.length_map (f := Prod.snd), hps]; simp; omega
      have ls : ss.length = L.length - b := by rw [← List.length_map (f := Prod.snd), hss]; simp
      have ox : oneV xv := hx.one
      have lit : ∀ {wa wb : World}, Grow (dr w1 m) wa → wb = wa.alloc (.cells #[xv] 22) → SlC wb (.slice (some ⟨wa.heap.size, 0, none⟩) 1 1) 1 [xv] := fun {wa wb} g hw => by
        have := Own.lit (B := wa.heap.size) (n := 1) (sz := 1) hw (Nat.le_refl _) (by omega) (by simp)
        simpa using this.slC
      have nil : ∀ {wa wb : World}, Grow (dr w1 m) wa → wb = wa.alloc (.cells #[] 22) → OwnB S (dr w1 m).heap.size wb (.slice (some ⟨wa.heap.size, 0, none⟩) 0 0) [] := fun {wa wb} g hw => by
        have := Own.lit (B := (dr w1 m).heap.size) (n := 0) (sz := 1) hw g.size (by omega) (by simp)
        exact ⟨[], rfl, by simp, by simpa using this⟩
      have fin : ∀ {v' w'}, OwnB S (dr w1 m).heap.size w' v' ((([] ++ ps.map Prod.snd) ++ [([xv], xs)].map Prod.snd) ++ ss.map Prod.snd) → Grow (dr w1 m) w' → ∃ v, Ending.returned v' = .returned v ∧ SlS S w' v (insK id xs L) ∧ Grow w9 w' := fun {v' w'} ho g => by
        refine ⟨v', rfl, ?_, gD.trans g⟩
        rw [← eq]
        have h9 : SlX 1 (repIS S) w' v' ((([] ++ ps.map Prod.snd) ++ [([xv], xs)].map Prod.snd) ++ ss.map Prod.snd) := by
          obtain ⟨rs, hr1, hr2, hr3⟩ := ho.ex
          have hr4 := hr3.slC
          rw [← hr1, List.length_map] at hr4
          rw [← hr1]
          exact SlX.of_cells (fun p hp => ⟨(hr2 p hp).len, fun w2 hf => (hr2 p hp).rep w2 (hf.mono fun k _ e => .inl (.inr e))⟩) hr4
        rw [hps, hss] at h9
        simpa using h9
      have qx : ∀ q ∈ [([xv], xs)], q.1.length = 1 ∧ ∀ w', Fr S (dr w1 m) w' → repI w' q.1 q.2 := fun q hq => by
        obtain rfl : q = ([xv], xs) := by simpa using hq
        exact ⟨rfl, fun w' hf => ⟨xv, rfl, hxS w' (fD hf)⟩⟩
      have last : ∀ {v' w'}, OwnB S (dr w1 m).heap.size w' v' (([] ++ ps.map Prod.snd) ++ [([xv], xs)].map Prod.snd) → Grow (dr w1 m) w' → PApp Tryz.prog 48 48 v' sv w' fun t w2 => ∃ v, Ending.returned t = .returned v ∧ SlS S w2 v (insK id xs L) ∧ Grow w9 w2 := fun {v' w'} ho g =>
        appL g ho hs1 (hs2.grow g) (by simp; omega) fun v2 w2 ho2 g2 _ => fin ho2 g2
      refine ⟨fun w40 hw40 => ⟨?_, ox, fun w48 hw48 => ?_⟩, ox, fun w55 hw55 w56 hw56 => ?_⟩
      · have g40 := alloc_grow hw40
        refine appL g40 (nil (Grow.refl _) hw40) hp1 (hp2.grow g40) (by simp; omega) fun v2 w42 ho2 g2 _ => ⟨ox, fun w43 hw43 => ?_⟩
        have g43 := g2.trans (alloc_grow hw43)
        refine appL g43 (ho2.grow (alloc_grow hw43)) qx (lit g2 hw43) (by simp; omega) fun v3 w45 ho3 g3 _ => last ho3 g3
      · have g40 := alloc_grow hw40
        have g48 := g40.trans (alloc_grow hw48)
        refine appL g48 ((nil (Grow.refl _) hw40).grow (alloc_grow hw48)) hp1 (hp2.grow g48) (by simp; omega) fun v2 w50 ho2 g2 f2 => ?_
        refine appL g2 ho2 qx (SlC.fr (lit g40 hw48) f2 fun a n c e1 e2 => ?_) (by simp; omega) fun v3 w52 ho3 g3 _ => last ho3 g3
        simp only [Value.slice.injEq, Option.some.injEq] at e1
        have e3 : w40.heap.size = a.block := congrArg Addr.block e1.1
        have e4 : a.block = (dr w1 m).heap.size := Option.some.inj e2
        have e5 := alloc_size hw40
        omega
      · have g55 := alloc_grow hw55
        have g56 := g55.trans (alloc_grow hw56)
        refine appL g56 (nil g55 hw56) hp1 (hp2.grow g56) (by simp; omega) fun v2 w58 ho2 g2 f2 => ?_
        refine appL g2 ho2 qx (SlC.fr ((lit (Grow.refl _) hw55).grow (alloc_grow hw56)) f2 fun a n c e1 e2 => ?_) (by simp; omega) fun v3 w60 ho3 g3 _ => last ho3 g3
        simp only [Value.slice.injEq, Option.some.injEq] at e1
        have e3 : (dr w1 m).heap.size = a.block := congrArg Addr.block e1.1
        have e4 : a.block = w55.heap.size := Option.some.inj e2
        have e5 := alloc_size hw55
        omega
    refine SlX.ln hL (condD (fun h => ?_) fun h => ?_)
    · have hbl : b < L.length := by omega
      refine SlL.rd1 hL rfl hbl fun u hu => (refEqual_c hu hx).mono ?_
      rintro e w24 ⟨rfl, rfl⟩
      refine ⟨_, rfl, condD (fun h2 => ?_) fun h2 m => ?_⟩
      · refine ⟨lv, rfl, ?_, Grow.refl _⟩
        rw [← ins_in key_id hst (x := xs) (h2 ▸ List.getElem_mem hbl)]
        exact hLS
      · refine fin (Grow.refl _) fun y hy => ?_
        have h3 := hhi y hy
        have h4 : cmpL xs y ≠ 0 := fun e => by
          obtain ⟨i, hi, rfl⟩ := List.mem_iff_getElem.1 hy
          rw [List.getElem_drop] at e
          have hil : b + i < L.length := by
            have := hi
            simp at this; omega
          rcases Nat.eq_zero_or_pos i with h5 | h5
          · subst h5
            exact h2 (cmpL_zero.1 e).symm
          · have h6 := mono hbl hil (by omega)
            have h7 := hhi L[b] (List.mem_iff_getElem.2 ⟨0, by simp; omega, by simp⟩)
            rw [cmpL_zero.1 e] at h7
            have := cmpL_swap L[b] L[b + i]
            omega
        omega
    · intro m
      refine fin (Grow.refl _) fun y hy => ?_
      rw [List.drop_eq_nil_of_le (by omega)] at hy
      cases hy
theorem put_c {w : World} {lv xv : Value} {L : List (List Int)} {xs : List Int} (hL : SlL w lv L) (hst : StrK id L) (hx : SlI w xv xs) (hlen : L.length ≤ 100000) : Calls Tryz.prog 93 #[lv, xv] w fun e w' => ∃ v, e = .returned v ∧ SlL w' v (insK id xs L) ∧ Grow w w' := by
  have gr : ∀ {w' : World}, Fr (fun _ => False) w w' → Grow w w' := fun hf => (Grow.refl w).fr hf fun _ _ => id
  refine (put_s (S := fun _ => False) (fun k h => absurd h id) (SlX.imp hL fun cs x hx w' hf => repI_mono _ _ _ _ (gr hf) hx) hst (fun w' hf => hx.grow (gr hf)) hlen).mono ?_
  rintro e w' ⟨v, rfl, hv, g⟩
  exact ⟨v, rfl, SlS.slL hv, g⟩
/-! ## Keys of facts -/
theorem refKey_c {w : World} {r : Int} {v : Value} {xs : List Int} (hs : SlI w v xs) (hlen : xs.length ≤ 1000000) : Calls Tryz.prog 107 #[.agg #[.int .i64 r, v]] w fun e w' => ∃ v', e = .returned v' ∧ SlI w' v' (r :: xs) ∧ Grow w w' := by
  refine f107_calls _ ?_
  refine ⟨_, rfl, fun w1 hw1 => ⟨r, boxc hw1 0 _ rfl, fun w4 hw4 => ?_⟩⟩
  have g1 := alloc_grow hw1
  have g4 := alloc_grow hw4
  refine ⟨v, g4.cell (boxc hw1 1 _ rfl), ?_⟩
  have hl := Own.lit (B := w1.heap.size) (n := 1) (sz := 1) hw4 (Nat.le_refl _) (by omega) (by simp)
  refine papp el_int (by omega) hl (hs.grow (g1.trans g4)) (by simp) (by simp [VC.encI, Value.oneCell']) (by rw [alloc_size hw4]; omega) (by omega) (by omega) ?_
  intro v' w' ho hf _
  refine ⟨v', rfl, Own.slI (n := 1 + xs.length) (xs := r :: xs) (by simpa [VC.encI] using ho), (g1.trans g4).fr hf fun i hi e => ?_⟩
  simp [Value.ownBlock] at e
  have := alloc_size hw1
  omega
end Go.Proofs.YtmjpnfapjcfejaaGreatDoor
