/- Contracts: slices.Sort of ints of the call's own; covers by cliques, and their reference. The table of bits is laid (Tab). -/
import Derived.Test.YtmpjanpmkmlloaaDoorSh
import Derived.Sort.OwnSortedInts
import Derived.Test.YtmpjanpmkmlloaaDoorCd
import Derived.Test.YtmpjanpmkmlloaaDoorCl
import Derived.Test.YtmpjanpmkmlloaaDoorCt
import Derived.Test.YtmpjanpmkmlloaaDoorVp
import Derived.Test.YtmpjanpmkmlloaaDoorGx
namespace Go.Proofs.YtmpjanpmkmlloaaDoor
open Go Go.RowKit VC
set_option linter.unusedSimpArgs false
set_option linter.unusedVariables false

theorem sort_c {w : World} {B : Nat} {v : Value} {xs : List Int} (h : OwnI w B v xs) (hlen : xs.length < 4611686018427387904) : Calls Tryd.prog 99 #[v] w fun e w' => e = .returned (.tuple #[]) ∧ OwnI w' B v (xs.mergeSort fun x y => decide (x ≤ y)) ∧ Fr (fun k => some k = v.ownBlock) w w' := by
  rcases h.2 with ⟨rfl, h0⟩ | ⟨g, cap, cur, rfl, hb, hgg, hnc, hcm, hcs, htake⟩
  · have hx : xs = [] := by simpa using h0
    subst hx
    refine (Tryd.slices_Sort_int_none none 0 w).mono ?_
    rintro e w' ⟨rfl, rfl⟩
    exact ⟨rfl, by simpa using h, Fr.refl _ _⟩
  · have ht : cur.toList.take xs.length = xs.map (Value.int .i64) := by
      have h := htake
      rw [Nat.mul_one] at h
      exact h
    have hH := Go.holds_of_blockI hgg ht
    refine (Tryd.slices_Sort_int g 0 cap xs w hH (Array.getElem?_eq_some_iff.1 hgg).1 hlen).mono ?_
    rintro e w' ⟨rfl, n, os, rfl⟩
    have hl : (xs.mergeSort fun x y => decide (x ≤ y)).length = xs.length := by simp
    refine ⟨rfl, ?_, Fr.of_grown (Go.grownBy_sortedI _)⟩
    have := Go.ownsRow_sortedI (base := B) (n := n) (os := os) (ss := xs) (ts := xs.mergeSort fun x y => decide (x ≤ y)) (e := 3) (cap := cap) hl hb hgg hnc hcm hcs
    unfold OwnI
    rw [hl]
    exact this
theorem sorted_nat (cs : List Nat) : ∃ ds : List Nat, (ofN cs).mergeSort (fun x y => decide (x ≤ y)) = ofN ds ∧ ds.Perm cs ∧ ds.Pairwise (· ≤ ·) := by
  have hp := List.mergeSort_perm (ofN cs) (fun x y => decide (x ≤ y))
  have hs := List.pairwise_mergeSort (le := fun x y : Int => decide (x ≤ y)) (fun a b c h1 h2 => by simp at h1 h2 ⊢; omega) (fun a b => by simp; omega) (ofN cs)
  generalize (ofN cs).mergeSort (fun x y => decide (x ≤ y)) = l at hp hs
  have hnn : ∀ x ∈ l, 0 ≤ x := fun x hx => by
    have := hp.subset hx
    obtain ⟨n, _, rfl⟩ := List.mem_map.1 this
    omega
  have e : ofN (l.map Int.toNat) = l := by
    unfold ofN
    rw [List.map_map]
    conv => rhs; rw [← List.map_id l]
    exact List.map_congr_left fun x hx => by have := hnn x hx; simp; omega
  refine ⟨l.map Int.toNat, e.symm, ?_, ?_⟩
  · have := hp.map Int.toNat
    have e2 : (ofN cs).map Int.toNat = cs := by unfold ofN; rw [List.map_map]; conv => rhs; rw [← List.map_id cs]
                                                exact List.map_congr_left fun x _ => by simp
    rwa [e2] at this
  · rw [List.pairwise_map]
    exact hs.imp fun h => by simp at h; omega
theorem Parts.perm {N : List Nat} {s : Nat} {cs ds : List Nat} (h : Parts N s cs) (hp : ds.Perm cs) : Parts N s ds :=
  ⟨fun c hc => h.clq c (hp.mem_iff.1 hc), h.dis.perm hp.symm (fun h => and_comm0 h), fun x => by
    rw [← h.uni]
    exact ⟨fun ⟨c, hc, hx⟩ => ⟨c, hp.mem_iff.1 hc, hx⟩, fun ⟨c, hc, hx⟩ => ⟨c, hp.mem_iff.2 hc, hx⟩⟩⟩
theorem Parts.strict {N : List Nat} {s : Nat} {cs : List Nat} (h : Parts N s cs) (hs : cs.Pairwise (· ≤ ·)) : cs.Pairwise (· < ·) := by
  have : ∀ l : List Nat, (∀ c ∈ l, c ≠ 0) → l.Pairwise (fun a b => a &&& b = 0) → l.Pairwise (· ≤ ·) → l.Pairwise (· < ·) := by
    intro l
    induction l with
    | nil => intros; exact List.Pairwise.nil
    | cons a r ih =>
      intro h1 h2 h3
      rw [List.pairwise_cons] at h2 h3 ⊢
      refine ⟨fun b hb => ?_, ih (fun c hc => h1 c (List.mem_cons_of_mem _ hc)) h2.2 h3.2⟩
      have := h3.1 b hb
      have := h2.1 b hb
      rcases Nat.lt_or_ge a b with h4 | h4
      · exact h4
      · have e : a = b := by omega
        subst e
        rw [Nat.and_self] at this
        exact absurd this (h1 a (List.mem_cons_self ..))
  exact this cs (fun c hc => (h.clq c hc).1) h.dis hs
theorem Cover_no {w : World} {v : Value} {G : List Int} (hs : SlI w v G) (hv : ¬ VG G) : Calls Tryd.prog 56 #[v] w (Ret w (.tuple #[.slice none 0 0, .int .i64 2])) := by
  refine f56_calls _ ?_
  refine (chordal_no hs hv).mono ?_
  rintro e w1 ⟨rfl, g1⟩
  exact ⟨2, rfl, cT (by simp) ⟨rfl, g1⟩⟩
theorem Cover_none {w : World} {v : Value} {N : List Nat} (hs : SlI w v (ofN N)) (hN : VN N) (hT : Tab w) (ho : (ordG N).isSome = false) : Calls Tryd.prog 56 #[v] w (Ret w (.tuple #[.slice none 0 0, .int .i64 7])) := by
  refine f56_calls _ ?_
  refine (chordal_c hs hN hT).mono ?_
  rintro e w1 ⟨rfl, g1⟩
  rw [ho]
  exact ⟨7, rfl, cT (by simp) ⟨rfl, g1⟩⟩
theorem Cover_c {w : World} {v : Value} {N : List Nat} (hs : SlI w v (ofN N)) (hN : VN N) (hT : Tab w) (ho : (ordG N).isSome = true) : Calls Tryd.prog 56 #[v] w fun e w' => ∃ u cs, e = .returned (.tuple #[u, .int .i64 0]) ∧ SlI w' u (ofN cs) ∧ Parts N (al N) cs ∧ cs.Pairwise (· < ·) ∧ cs.length = mcv N (al N) ∧ cs.length = pc (alp N) ∧ Grow w w' := by
  refine f56_calls _ ?_
  have h12 := hN.le
  have hp := hN.pow
  obtain ⟨r, hr⟩ := Option.isSome_iff_exists.1 ho
  have hel := ordG_el hN hr
  have hrl : r.length = N.length := by
    have := el_len hN hel
    simpa using this
  have hrn : ∀ k (hk : k < r.length), r[k] < N.length := fun k hk => by
    have := (el_true hN _ _ (al_lt N) hel).1
    rw [inRange, List.all_eq_true] at this
    have h2 := this ((r[k] : Nat) : Int) (List.mem_map.2 ⟨r[k], List.getElem_mem hk, rfl⟩)
    simp at h2; exact h2
  refine (chordal_c hs hN hT).mono ?_
  rintro e w1 ⟨rfl, g1⟩
  rw [ho]
  refine ⟨0, rfl, cF (by simp) ((order_c (hs.grow g1) hN (hT.grow g1)).mono ?_)⟩
  rintro e w2 ⟨lv, rfl, hl2, g2⟩
  rw [hr] at hl2
  have hl2 : SlI w2 lv (ofN r) := hl2.slI
  have g02 := g1.trans g2
  have hall : ∀ {w'}, Grow w w' → Calls Tryd.prog 66 #[v] w' (Ret w' (.int .i64 ((al N : Nat) : Int))) := fun g => by
    have := all_c (hs.grow g) (by simpa using h12)
    rw [ofN_len] at this
    exact this
  refine ⟨_, _, rfl, (hall g02).mono ?_⟩
  rintro e w3 ⟨rfl, g3⟩
  refine ⟨_, rfl, (hall (g02.trans g3)).mono ?_⟩
  rintro e w4 ⟨rfl, g4⟩
  have g24 := g3.trans g4
  have hall4 := al_lt N
  refine ⟨_, rfl, (hl2.grow g24).ln ?_⟩
  rw [ofN_len]
  refine ⟨fun left behind out t w' => ∃ (k L B : Nat) (done : List Nat), t = k ∧ k ≤ r.length ∧ left = (L : Int) ∧ behind = (B : Int) ∧ L < 4096 ∧ B < 4096 ∧ done ++ covT N L B (r.drop k) = covT N (al N) (al N) r ∧ OwnI w' w4.heap.size out (ofN done) ∧ Grow w4 w',
    fun _ _ _ t _ => r.length - t.toNat, ⟨0, al N, al N, [], rfl, by omega, rfl, rfl, by omega, by omega, rfl, Own.nil _ _ _ _, Grow.refl _⟩, ?_⟩
  rintro - - - out t w5 ⟨k, L, B, done, rfl, hk, rfl, rfl, hL, hB, hdone, hown, g5⟩
  refine condD (fun hlt => ?_) (fun hge => ?_)
  · have hkl : k < r.length := by omega
    have hi := hrn k hkl
    have hdrop : r.drop k = r[k] :: r.drop (k + 1) := List.drop_eq_getElem_cons hkl
    refine (hl2.grow (g24.trans g5)).rd rfl (by simpa using hkl) ?_
    rw [ofN_get]
    generalize hid : r[k] = i at hi hdrop
    have hb' : nSub B (2 ^ i) < 4096 := nSub_lt (n := 12) hB
    have eb : iAndNot .i64 (B : Int) (iShl .i64 1 (i : Int)) = ((nSub B (2 ^ i) : Nat) : Int) := by rw [iShl_one (by omega), iAndNot_nat (by omega) (p2 (by omega))]
    rw [eb]
    refine ⟨by omega, by omega, condD (fun h0 => ?_) (fun h1 => ?_)⟩
    · have hbit : L.testBit i = false := by
        rw [iBit _ (by omega), ibit_nat] at h0
        cases h : L.testBit i with
        | false => rfl
        | true => rw [h] at h0; simp at h0
      refine ⟨by unfold inR; omega, ⟨k + 1, L, nSub B (2 ^ i), done, by omega, by omega, rfl, rfl, hL, hb', ?_, hown, g5⟩, by dsimp only; omega⟩
      rw [← hdone, hdrop]
      conv => rhs; unfold covT
      simp [hbit]
    · have hbit : L.testBit i = true := by
        rw [iBit _ (by omega), ibit_nat] at h1
        cases h : L.testBit i with
        | true => rfl
        | false => rw [h] at h1; simp at h1
      have g05 := (g02.trans g24).trans g5
      refine (hs.grow g05).rd rfl (by simpa using hi) ?_
      rw [ofN_get, nb_get]
      refine ⟨by omega, fun m w6 hw6 => ?_⟩
      have hnb := hN.nb_lt' i
      have h2i : 2 ^ i < 4096 := Nat.pow_lt_pow_right (a := 2) (m := i) (n := 12) (by omega) (by omega)
      have hx : nb N i &&& nSub B (2 ^ i) < 4096 := Nat.lt_of_le_of_lt Nat.and_le_left hnb
      have hy : (nb N i &&& nSub B (2 ^ i)) ||| 2 ^ i < 4096 := Nat.or_lt_two_pow (n := 12) hx h2i
      have hc : L &&& ((nb N i &&& nSub B (2 ^ i)) ||| 2 ^ i) < 4096 := Nat.lt_of_le_of_lt Nat.and_le_left hL
      have ec : iAnd .i64 (L : Int) (iOr .i64 (iAnd .i64 ((nb N i : Nat) : Int) ((nSub B (2 ^ i) : Nat) : Int)) (iShl .i64 1 (i : Int))) = ((L &&& ((nb N i &&& nSub B (2 ^ i)) ||| 2 ^ i) : Nat) : Int) := by
        rw [iShl_one (by omega), iAnd_nat (by omega) (by omega), iOr_nat (by omega) (by omega), iAnd_nat (by omega) (by omega)]
      rw [ec] at hw6 ⊢
      have hdl : done.length ≤ 1000000 := by
        have h1 := congrArg List.length hdone
        have h2 := (covT_least hN hr).2
        have := pc_le (alp N)
        simp at h1; omega
      refine pappI hw6 (Own.dr hown m) (by simpa using g5.size) (by simpa using hdl) ?_
      intro v' w7 ho7 hf7
      have hl7 : nSub L (L &&& ((nb N i &&& nSub B (2 ^ i)) ||| 2 ^ i)) < 4096 := nSub_lt (n := 12) hL
      rw [iAndNot_nat (by omega) (by omega)]
      refine ⟨by unfold inR; omega, ⟨k + 1, _, _, done ++ [L &&& ((nb N i &&& nSub B (2 ^ i)) ||| 2 ^ i)], by omega, by omega, rfl, rfl, hl7, hb', ?_, ?_, own_grow (g5.dr m) (Own.dr hown m) (Nat.le_refl _) hw6 hf7⟩, by dsimp only; omega⟩
      · rw [← hdone, hdrop]
        conv => rhs; unfold covT
        simp [hbit]
      · rw [ofN_app]; exact ho7
  · have hkl : k = r.length := by omega
    subst hkl
    have hd : done = covT N (al N) (al N) r := by
      rw [← hdone, List.drop_length]
      unfold covT; simp
    subst hd
    obtain ⟨e1, e2⟩ := covT_least hN hr
    have hpc := pc_le (alp N)
    obtain ⟨ds, hds, hperm, hpw⟩ := sorted_nat (covT N (al N) (al N) r)
    refine (sort_c hown (by simp; omega)).mono ?_
    rintro e w6 ⟨rfl, hown6, hf6⟩
    rw [hds] at hown6
    have hparts := ((covT_spec hN r (al N) (al N) (al_lt N) (fun _ h => h) hel).1).perm hperm
    refine ⟨rfl, out, ds, rfl, hown6.slI, hparts, hparts.strict hpw, by rw [hperm.length_eq, e1], by rw [hperm.length_eq, e2], ?_⟩
    exact (g02.trans g24).trans (g5.fr hf6 fun i hi e => by have := (Own.lt hown e.symm).1; omega)
/-! ## The reference -/
theorem count_c {s : Nat} (h : s < 4096) {w : World} : Calls Tryd.prog 60 #[.int .i64 (s : Int)] w (Ret w (.int .i64 (pc s : Int))) := by
  refine f60_calls _ ?_
  refine ⟨fun t n w' => ∃ (s' m : Nat), t = (s' : Int) ∧ s' < 4096 ∧ n = (m : Int) ∧ pc s = m + pc s' ∧ Grow w w', fun t _ _ => t.toNat, ⟨s, 0, rfl, h, rfl, by simp, Grow.refl w⟩, ?_⟩
  rintro - t n w1 ⟨s', m, rfl, hs', rfl, he, hg⟩
  have hle := pc_le s
  refine condD (fun hb => ?_) (fun hb => ?_)
  · have h0 : s' ≠ 0 := by omega
    obtain ⟨e1, e2, e3⟩ := els_step hs' h0
    have h1 : ((s' : Int) - 1) = ((s' - 1 : Nat) : Int) := by omega
    refine ⟨by unfold inR; omega, by unfold inR; omega, ⟨s' &&& (s' - 1), m + 1, ?_, by omega, by omega, ?_, hg⟩, ?_⟩
    · rw [h1, iAnd_nat (by omega) (by omega)]
    · have : pc s' = pc (s' &&& (s' - 1)) + 1 := by unfold pc; rw [e1]; rfl
      omega
    · dsimp only
      rw [h1, iAnd_nat (by omega) (by omega)]; omega
  · have h0 : s' = 0 := by omega
    subst h0
    have : pc 0 = 0 := rfl
    rw [he, this]
    exact ⟨rfl, hg⟩
theorem refIndependent_c {w : World} {v : Value} {N : List Nat} (hs : SlI w v (ofN N)) (hN : VN N) : Calls Tryd.prog 57 #[v] w (Ret w (.int .i64 (alpha_ N : Nat))) := by
  refine f57_calls _ ?_
  have hp := hN.pow
  have h12 := hN.le
  have h0 : 0 < 2 ^ N.length := Nat.pow_pos (by omega)
  refine hs.ln ?_
  rw [ofN_len, iShl_one (by omega)]
  refine ⟨by omega, fun b t w' => ∃ k : Nat, t = k ∧ k ≤ 2 ^ N.length ∧ b = ((bestN (free N) k : Nat) : Int) ∧ Grow w w', fun _ t _ => 2 ^ N.length - t.toNat, ⟨0, rfl, by omega, rfl, Grow.refl w⟩, ?_⟩
  rintro - b t w2 ⟨k, rfl, hk, rfl, g2⟩
  have hb := bestN_le (q := free N) k
  refine condD (fun hlt => ?_) (fun hge => ?_)
  · have hkl : k < 2 ^ N.length := by omega
    refine (refFree_c (hs.grow g2) hN hkl).mono ?_
    rintro e w3 ⟨rfl, g3⟩
    have g23 := g2.trans g3
    refine ⟨_, rfl, condP_i (fun hq => ?_) (fun hq => ?_)⟩
    · refine (size_c (by omega)).mono ?_
      rintro e w4 ⟨rfl, g4⟩
      refine ⟨_, rfl, (size_c (by omega)).mono ?_⟩
      rintro e w5 ⟨rfl, g5⟩
      have g25 := (g23.trans g4).trans g5
      refine ⟨_, rfl, condD (fun hc => ?_) (fun hc => ?_)⟩
      · have hc : pc (bestN (free N) k) < pc k := by omega
        exact ⟨by unfold inR; omega, ⟨k + 1, by omega, by omega, by simp [bestN, hc, hq], g25⟩, by dsimp only; omega⟩
      · have hc : ¬ pc (bestN (free N) k) < pc k := by omega
        exact ⟨by unfold inR; omega, ⟨k + 1, by omega, by omega, by simp [bestN, hc], g25⟩, by dsimp only; omega⟩
    · exact ⟨by unfold inR; omega, ⟨k + 1, by omega, by omega, by simp [bestN, hq], g23⟩, by dsimp only; omega⟩
  · have hkl : k = 2 ^ N.length := by omega
    subst hkl
    exact ⟨rfl, g2⟩
/-- Covers accepts rising cliques that part all nodes. -/
theorem covers_c {w : World} {v u : Value} {N cs : List Nat} (hs : SlI w v (ofN N)) (hu : SlI w u (ofN cs)) (hN : VN N) (hP : Parts N (al N) cs) (hr : cs.Pairwise (· < ·)) : Calls Tryd.prog 58 #[v, u] w (Ret w (.bool true)) := by
  refine f58_calls _ _ ?_
  have h12 := hN.le
  have hp := hN.pow
  have hle := hu.len_le
  rw [ofN_len] at hle
  have hone := Nat.pow_pos (n := N.length) (show 0 < 2 by omega)
  refine hu.ln ?_
  rw [ofN_len]
  refine ⟨fun all t w' => ∃ (k a : Nat), t = k ∧ k ≤ cs.length ∧ all = (a : Int) ∧ a < 4096 ∧ (∀ x, a.testBit x = true ↔ ∃ c ∈ cs.take k, c.testBit x = true) ∧ Grow w w', fun _ t _ => cs.length - t.toNat, ⟨0, 0, rfl, by omega, rfl, by omega, fun x => by simp, Grow.refl w⟩, ?_⟩
  rintro - - t w1 ⟨k, a, rfl, hk, rfl, ha4, hab, g1⟩
  refine condD (fun hlt => ?_) (fun hge => ?_)
  · have hkl : k < cs.length := by omega
    obtain ⟨hc0, hcl, hcq⟩ := hP.clq _ (List.getElem_mem hkl)
    refine (hu.grow g1).rd rfl (by simpa using hkl) ?_
    rw [ofN_get]
    refine cF (by simp; omega) ((hs.grow g1).ln ?_)
    rw [ofN_len, iShl_one (by omega)]
    refine ⟨by omega, cF (decide_eq_false (by omega)) ((isClique_c (hs.grow g1) hN hcl).mono ?_)⟩
    rintro e w2 ⟨rfl, g2⟩
    have g02 := g1.trans g2
    rw [hcq]
    have hdis : a &&& cs[k] = 0 := by
      rw [set_zero]
      intro x
      rw [Nat.testBit_and]
      cases hx : a.testBit x with
      | false => rfl
      | true =>
        obtain ⟨c, hc, hcx⟩ := (hab x).1 hx
        obtain ⟨j, hj, rfl⟩ := List.mem_iff_getElem.1 hc
        have hjk : j < k := by simp at hj; omega
        have h0 := List.pairwise_iff_getElem.1 hP.dis j k (by omega) hkl hjk
        rw [List.getElem_take] at hcx
        have := set_zero.1 h0 x
        rw [Nat.testBit_and, hcx, Bool.true_and] at this
        rw [this]; rfl
    have hor : a ||| cs[k] < 4096 := Nat.or_lt_two_pow (n := 12) ha4 (by omega)
    have next : inR ((k : Int) + 1) ∧ (∃ (k' a' : Nat), (k : Int) + 1 = k' ∧ k' ≤ cs.length ∧ iOr .i64 (a : Int) ((cs[k] : Nat) : Int) = (a' : Int) ∧ a' < 4096 ∧ (∀ x, a'.testBit x = true ↔ ∃ c ∈ cs.take k', c.testBit x = true) ∧ Grow w w2) ∧ cs.length - Int.toNat ((k : Int) + 1) < cs.length - Int.toNat (k : Int) := by
      refine ⟨by unfold inR; omega, ⟨k + 1, a ||| cs[k], by omega, by omega, iOr_nat (by omega) (by omega), hor, fun x => ?_, g02⟩, by omega⟩
      rw [Nat.testBit_or, Bool.or_eq_true, hab, List.take_succ_eq_append_getElem hkl]
      constructor
      · rintro (⟨c, hc, hx⟩ | hx)
        · exact ⟨c, List.mem_append_left _ hc, hx⟩
        · exact ⟨cs[k], List.mem_append_right _ (List.mem_singleton.2 rfl), hx⟩
      · rintro ⟨c, hc, hx⟩
        rcases List.mem_append.1 hc with hc | hc
        · exact .inl ⟨c, hc, hx⟩
        · have : c = cs[k] := by simpa using hc
          rw [← this]; exact .inr hx
    refine ⟨true, rfl, cF rfl (cF (by rw [iAnd_nat (by omega) (by omega), hdis]; rfl) (condD (fun hk0 => ⟨by unfold inR; omega, ?_⟩) fun _ => next))⟩
    refine (hu.grow g02).rd (i := k - 1) (by omega) (by simp; omega) ?_
    rw [ofN_get]
    have := List.pairwise_iff_getElem.1 hr (k - 1) k (by omega) hkl (by omega)
    exact cF (by simp; omega) next
  · have hkl : k = cs.length := by omega
    subst hkl
    rw [List.take_length] at hab
    have : a = al N := Nat.eq_of_testBit_eq fun x => by rw [Bool.eq_iff_iff, hab, hP.uni]
    subst this
    have e : iShl .i64 1 (N.length : Int) - 1 = ((al N : Nat) : Int) := by rw [iShl_one (by omega)]; unfold al; omega
    refine (hs.grow g1).ln ?_
    rw [ofN_len, e]
    refine ⟨by omega, by unfold inR; omega, ?_, g1⟩
    simp
def cellsN (n : Nat) (val : Nat → Int) : List Value := (List.range n).map fun j => .int .i64 (val j)
@[simp] theorem cellsN_len (n : Nat) (val : Nat → Int) : (cellsN n val).length = n := by simp [cellsN]
theorem cellsN_get {n j : Nat} {val : Nat → Int} (hj : j < n) : (cellsN n val)[j]? = some (.int .i64 (val j)) := by simp [cellsN, hj]
theorem cellsN_set {n j : Nat} {val : Nat → Int} {u : Int} (hj : j < n) : (cellsN n val).set j (.int .i64 u) = cellsN n fun i => if i = j then u else val i := by
  apply List.ext_getElem
  · simp [cellsN]
  · intro i h1 h2
    rw [List.getElem_set]
    by_cases e : i = j
    · subst e; simp [cellsN]
    · have : ¬ j = i := fun x => e x.symm
      simp [cellsN, e, this]
theorem own_at {w : World} {B : Nat} {e : TypeId} {g n cap i : Nat} {cs : List Value} {u : Value} (h : Own w B e 1 (.slice (some ⟨g, 0, none⟩) n cap) n cs) (hi : cs[i]? = some u) : w.cell? ⟨g, i, none⟩ = some u := by
  have := World.ownsRow.cells (g := g) h rfl i u hi
  rwa [Addr.add0] at this
theorem refCover_c {w : World} {v : Value} {N : List Nat} (hs : SlI w v (ofN N)) (hN : VN N) : Calls Tryd.prog 59 #[v] w (Ret w (.int .i64 (mcv N (al N) : Nat))) := by
  refine f59_calls _ ?_
  have hp := hN.pow
  have h12 := hN.le
  have h0 : 0 < 2 ^ N.length := Nat.pow_pos (by omega)
  have m0 := mcv_zero hN
  have hm12 : ∀ {s}, s < 2 ^ N.length → mcv N s ≤ 12 := fun h => (mcv_spec hN h).2.1
  refine hs.ln ?_
  rw [ofN_len, iShl_one (by omega)]
  refine ⟨by omega, ⟨by omega, by omega, by omega, by omega⟩, fun w1 hw1 => ?_⟩
  simp only [Int.toNat_natCast] at hw1 ⊢
  have g1 := alloc_grow hw1
  have s1 := alloc_size hw1
  have hpl : ∀ j : Nat, (⟨w.heap.size, 0, none⟩ : Addr).add (Int.toNat (j : Int) * 1) = ⟨w.heap.size, j, none⟩ := fun j => by rw [Int.toNat_natCast, Nat.mul_one, Addr.add0]
  have hown1 : Own w1 w.heap.size 3 1 (.slice (some ⟨w.heap.size, 0, none⟩) (2 ^ N.length) (2 ^ N.length)) (2 ^ N.length) (cellsN (2 ^ N.length) fun _ => 0) := by
    have := Own.made (B := w.heap.size) (n := 2 ^ N.length) hw1 (by simp) (Nat.le_refl _) (by omega)
    have e : List.replicate (2 ^ N.length) (Value.int .i64 0) = cellsN (2 ^ N.length) fun _ => 0 := by
      apply List.ext_getElem
      · simp
      · intro i h1 h2; simp [cellsN]
    rwa [e] at this
  refine ⟨fun t w' => ∃ (k : Nat) (val : Nat → Int), t = k ∧ 1 ≤ k ∧ k ≤ 2 ^ N.length ∧ (∀ j, j < k → val j = (mcv N j : Int)) ∧ Own w' w.heap.size 3 1 (.slice (some ⟨w.heap.size, 0, none⟩) (2 ^ N.length) (2 ^ N.length)) (2 ^ N.length) (cellsN (2 ^ N.length) val) ∧ Grow w w',
    fun t _ => 2 ^ N.length - t.toNat, ⟨1, fun _ => 0, rfl, by omega, by omega, fun j hj => by
      have : j = 0 := by omega
      subst this; rw [m0]; rfl, hown1, g1⟩, ?_⟩
  rintro - t w2 ⟨k, val, rfl, hk1, hk, hval, hown2, g2⟩
  refine (hs.grow g2).ln ?_
  rw [ofN_len, iShl_one (by omega)]
  refine ⟨by omega, condD (fun hlt => ?_) (fun hge => ?_)⟩
  · have hkl : k < 2 ^ N.length := by omega
    refine ⟨_, _, _, rfl, ⟨by omega, by omega⟩, ?_⟩
    rw [hpl]
    have hwr := Own.wr hown2 hkl
    refine ⟨hwr.1, hwr.2, fun w3 hw3 => ?_⟩
    have hown3 := Own.set hown2 hkl hw3
    rw [cellsN_set hkl] at hown3
    have g3 : Grow w w3 := g2.fr (set_fr hw3) fun i hi e => by
      have : i = w.heap.size := e
      omega
    refine ⟨fun part w' => ∃ (p : Nat) (val' : Nat → Int), part = (p : Int) ∧ p ≤ k ∧ (∀ x, p.testBit x = true → k.testBit x = true) ∧ (∀ j, j < k → val' j = (mcv N j : Int)) ∧ (mcv N k : Int) ≤ val' k ∧ val' k ≤ 99 ∧ (∀ q, p < q → (∀ x, q.testBit x = true → k.testBit x = true) → cliq N q = true → val' k ≤ (mcv N (nSub k q) : Int) + 1) ∧ Own w' w.heap.size 3 1 (.slice (some ⟨w.heap.size, 0, none⟩) (2 ^ N.length) (2 ^ N.length)) (2 ^ N.length) (cellsN (2 ^ N.length) val') ∧ Grow w w',
      fun part _ => part.toNat, ⟨k, _, rfl, Nat.le_refl _, fun _ h => h, fun j hj => by rw [if_neg (by omega)]; exact hval j hj, by rw [if_pos rfl]; have := hm12 hkl; omega, by rw [if_pos rfl]; omega, fun q hq hqs _ => by have := sub_le hqs; omega, hown3, g3⟩, ?_⟩
    rintro - part w4 ⟨p, val', rfl, hpk, hps, hval', hlo, hhi, hall, hown4, g4⟩
    refine condD (fun hpos => ?_) (fun hzero => ?_)
    · have hp0 : p ≠ 0 := by omega
      have hplt : p < 2 ^ N.length := by omega
      -- the next part
      have e1 : ((p : Int) - 1) = ((p - 1 : Nat) : Int) := by omega
      have e2 : iAnd .i64 ((p : Int) - 1) (k : Int) = (((p - 1) &&& k : Nat) : Int) := by rw [e1, iAnd_nat (by omega) (by omega)]
      have hnle : (p - 1) &&& k ≤ p - 1 := Nat.and_le_left
      have hnext : ∀ {val2 : Nat → Int} {w' : World}, (∀ j, j < k → val2 j = (mcv N j : Int)) → (mcv N k : Int) ≤ val2 k → val2 k ≤ val' k → (cliq N p = true → val2 k ≤ (mcv N (nSub k p) : Int) + 1) → Own w' w.heap.size 3 1 (.slice (some ⟨w.heap.size, 0, none⟩) (2 ^ N.length) (2 ^ N.length)) (2 ^ N.length) (cellsN (2 ^ N.length) val2) → Grow w w' →
          inR ((p : Int) - 1) ∧ (∃ (p' : Nat) (val' : Nat → Int), iAnd .i64 ((p : Int) - 1) (k : Int) = (p' : Int) ∧ p' ≤ k ∧ (∀ x, p'.testBit x = true → k.testBit x = true) ∧ (∀ j, j < k → val' j = (mcv N j : Int)) ∧ (mcv N k : Int) ≤ val' k ∧ val' k ≤ 99 ∧ (∀ q, p' < q → (∀ x, q.testBit x = true → k.testBit x = true) → cliq N q = true → val' k ≤ (mcv N (nSub k q) : Int) + 1) ∧ Own w' w.heap.size 3 1 (.slice (some ⟨w.heap.size, 0, none⟩) (2 ^ N.length) (2 ^ N.length)) (2 ^ N.length) (cellsN (2 ^ N.length) val') ∧ Grow w w') ∧ Int.toNat (iAnd .i64 ((p : Int) - 1) (k : Int)) < Int.toNat (p : Int) := fun {val2 w'} a1 a2 a3 a4 a5 a6 => by
        refine ⟨by unfold inR; omega, ⟨(p - 1) &&& k, val2, e2, by omega, fun x hx => ?_, a1, a2, by omega, fun q hq hqs hqq => ?_, a5, a6⟩, by rw [e2]; omega⟩
        · rw [Nat.testBit_and, Bool.and_eq_true] at hx; exact hx.2
        · by_cases e : q = p
          · subst e; exact a4 hqq
          · by_cases hlt : p < q
            · have := hall q hlt hqs hqq; omega
            · have := next_part hp0 hps hqs (by omega)
              omega
      refine (isClique_c (hs.grow g4) hN hplt).mono ?_
      rintro e w5 ⟨rfl, g5⟩
      refine ⟨_, rfl, condP_i (fun hq m => ?_) (fun hq => hnext hval' hlo (Int.le_refl _) (fun h => by rw [hq] at h; cases h) (hown4.grow g5) (g4.trans g5))⟩
      have hown5 := Own.dr (hown4.grow g5) m
      have hsub : nSub k p < k := by
        have h1 : nSub k p ≤ k := sub_le fun x hx => by
          rw [nSub_bit, Bool.and_eq_true] at hx; exact hx.1
        have h2 : nSub k p ≠ k := fun e => by
          obtain ⟨x, hx⟩ : ∃ x, p.testBit x = true := Classical.byContradiction fun hn => hp0 (set_zero.2 fun i => by
            cases hb : p.testBit i with
            | false => rfl
            | true => exact absurd ⟨i, hb⟩ hn)
          have : (nSub k p).testBit x = false := by rw [nSub_bit, hx]; simp
          rw [e, hps x hx] at this; cases this
        omega
      have e3 : iAndNot .i64 (k : Int) (p : Int) = ((nSub k p : Nat) : Int) := iAndNot_nat (by omega) (by omega)
      have hck : (VC.dr w5 m).cell? ⟨w.heap.size, k, none⟩ = some (.int .i64 (val' k)) := own_at hown5 (cellsN_get hkl)
      have hcs : (VC.dr w5 m).cell? ⟨w.heap.size, nSub k p, none⟩ = some (.int .i64 (val' (nSub k p))) := own_at hown5 (cellsN_get (by omega))
      have hvs := hval' _ hsub
      have hm1 := hm12 (s := nSub k p) (by omega)
      have hm2 := hm12 hkl
      have hstep := mcv_le hN hkl hp0 hps hq
      have hwr5 := Own.wr hown5 hkl
      rw [e3]
      refine ⟨_, _, _, rfl, ⟨by omega, by omega⟩, _, _, _, rfl, ⟨by omega, by omega⟩, ?_⟩
      rw [hpl, hpl]
      have put : ∀ z : Int, z = (if val' (nSub k p) + 1 < val' k then val' (nSub k p) + 1 else val' k) → ∀ w6, w6 = (VC.dr w5 m).setCell ⟨w.heap.size, k, none⟩ (.int .i64 z) → _ := fun z hz w6 hw6 => by
        have hown6 := Own.set hown5 hkl hw6
        rw [cellsN_set hkl] at hown6
        have g6 : Grow w w6 := ((g4.trans g5).dr m).fr (set_fr hw6) fun i hi e => by
          have : i = w.heap.size := e
          omega
        exact hnext (fun j hj => by rw [if_neg (by omega)]; exact hval' j hj) (by rw [if_pos rfl, hz]; split <;> omega) (by rw [if_pos rfl, hz]; split <;> omega) (fun _ => by rw [if_pos rfl, hz]; split <;> omega) hown6 g6
      refine ⟨⟨_, hck, _, hcs, by unfold inR; omega, _, _, _, rfl, ⟨by omega, by omega⟩, ?_⟩, ⟨_, hcs, by unfold inR; omega, _, hck, _, _, _, rfl, ⟨by omega, by omega⟩, ?_⟩⟩
      · rw [hpl]
        exact ⟨hwr5.1, hwr5.2, put _ rfl⟩
      · rw [hpl]
        exact ⟨hwr5.1, hwr5.2, put _ rfl⟩
    · have hp0 : p = 0 := by omega
      subst hp0
      refine ⟨by unfold inR; omega, ⟨k + 1, val', by omega, by omega, by omega, fun j hj => ?_, hown4, g4⟩, by dsimp only; omega⟩
      by_cases e : j = k
      · subst e
        obtain ⟨q, hq0, hqs, hqq, hqe⟩ := mcv_step hN hkl (by omega)
        have := hall q (by omega) hqs hqq
        omega
      · exact hval' j (by omega)
  · have hkl : k = 2 ^ N.length := by omega
    subst hkl
    have e : ((2 ^ N.length : Nat) : Int) - 1 = ((al N : Nat) : Int) := by unfold al; omega
    have hal := al_lt N
    refine (hs.grow g2).ln ?_
    rw [ofN_len, iShl_one (by omega), e]
    refine ⟨by omega, by unfold inR; omega, _, _, _, rfl, ⟨by omega, by omega⟩, ?_⟩
    rw [hpl]
    refine ⟨_, own_at hown2 (cellsN_get hal), ?_, g2⟩
    rw [hval _ hal]
end Go.Proofs.YtmpjanpmkmlloaaDoor
