/- Contracts: facts turned around; rows searched. No condition. -/
import Derived.Test.YtmjpnfapjcfejaaGreatDoorMr
namespace Go.Proofs.YtmjpnfapjcfejaaGreatDoor
open Go Go.RowKit VC
set_option linter.unusedSimpArgs false
set_option linter.unusedVariables false

/-- Between the rounds of Reverse. -/
structure RvI (T : Nat → Prop) (w : World) (B g n cap : Nat) (ps : List (List Value × Atm)) (i j : Int) (w' : World) (qs : List (List Value × Atm)) : Prop where
  len : qs.length = n
  at_ : ∀ k, k < n → qs[k]? = if (k : Int) < i ∨ j < (k : Int) then ps[n - 1 - k]? else ps[k]?
  el : ∀ q ∈ qs, ElX T 2 repA (.slice (some ⟨g, 0, none⟩) n cap) w' q
  own : Own w' B 47 2 (.slice (some ⟨g, 0, none⟩) n cap) n (qs.flatMap Prod.fst)
  fr : Fr (fun b => b = g) w w'
theorem reverseF_c {T : Nat → Prop} {w : World} {B : Nat} {v : Value} {l : List Atm} (ho : OwnX T 2 repA w B 47 v l) : Calls Tryz.prog 35 #[v] w fun e w' => e = .returned (.tuple #[]) ∧ OwnX T 2 repA w' B 47 v l.reverse ∧ FrO v w w' := by
  refine f35_calls _ ?_
  have hle := SlX.len_le ho.slX
  obtain ⟨ps, hps, hel, hown⟩ := ho.ex
  have hpl : ps.length = l.length := by rw [← hps, List.length_map]
  rcases hown.2 with ⟨rfl, h0⟩ | ⟨g, cap, cur, rfl, hb, hgg, hnc, hcm, hcs, htake⟩
  · have hl : l = [] := by simpa using h0
    subst hl
    refine ⟨_, _, _, rfl, by unfold inR; omega, fun i j w' => w' = w ∧ i = 0 ∧ j = -1, fun _ _ _ => 0, ⟨rfl, rfl, rfl⟩, ?_⟩
    rintro - i j w' ⟨rfl, rfl, rfl⟩
    exact cF (decide_eq_false (by omega)) ⟨rfl, ho, Fr.refl _ _⟩
  have hgw : g < w.heap.size := (Array.getElem?_eq_some_iff.1 hgg).1
  have hn : l.length ≤ 9223372036854775807 := hle
  refine ⟨_, _, _, rfl, by unfold inR; omega, fun i j w' => ∃ qs, 0 ≤ i ∧ i + j = (l.length : Int) - 1 ∧ i ≤ j + 2 ∧ RvI T w B g l.length cap ps i j w' qs, fun i j _ => (j - i + 3).toNat, ⟨ps, by omega, by omega, by omega, ⟨hpl, fun k hk => ?_, hel, hown, Fr.refl _ _⟩⟩, ?_⟩
  · rw [if_neg (by omega)]
  rintro - i j w9 ⟨qs, hi, hij, hij2, hI⟩
  have hql : ∀ q ∈ qs, q.1.length = 2 := fun q hq => (hI.el q hq).len
  have hqn := hI.len
  refine condD (fun hlt => ?_) (fun hge => ?_)
  · intro m
    obtain ⟨a, rfl⟩ : ∃ a : Nat, i = a := ⟨i.toNat, by omega⟩
    obtain ⟨b, rfl⟩ : ∃ b : Nat, j = b := ⟨j.toNat, by omega⟩
    have hal : a < qs.length := by omega
    have hbl : b < qs.length := by omega
    have hbl' : b < l.length := by omega
    have gm : Grow w9 (dr w9 m) := (Grow.refl w9).dr m
    have om := Own.grow hI.own gm
    have at0 : ∀ (i j : Nat), Addr.add (Addr.add ⟨g, 0, none⟩ (Int.toNat (i : Int) * 2)) j = ⟨g, i * 2 + j, none⟩ := fun i j => by rw [add_add, Addr.add0, Int.toNat_natCast]
    have at1 : ∀ (i : Nat), Addr.add ⟨g, 0, none⟩ (Int.toNat (i : Int) * 2) = ⟨g, i * 2, none⟩ := fun i => by rw [Addr.add0, Int.toNat_natCast]
    have rdj : ∀ (t : Nat) (u : Value), (qs[b].1)[t]? = some u → (dr w9 m).cell? (Addr.add (Addr.add ⟨g, 0, none⟩ (Int.toNat (b : Int) * 2)) t) = some u := fun t u ht => by rw [at0]; exact rec_at hql om hbl t u ht
    have rdi : ∀ (t : Nat) (u : Value), (qs[a].1)[t]? = some u → (dr w9 m).cell? (Addr.add (Addr.add ⟨g, 0, none⟩ (Int.toNat (a : Int) * 2)) t) = some u := fun t u ht => by rw [at0]; exact rec_at hql om hal t u ht
    have lj := hql _ (List.getElem_mem hbl)
    have li := hql _ (List.getElem_mem hal)
    have hfl : (qs.flatMap Prod.fst).length = qs.length * 2 := flat_len' hql
    have ej := hI.el _ (List.getElem_mem hbl)
    have ei := hI.el _ (List.getElem_mem hal)
    -- the two stores
    have st : ∃ cs : Array Value, (Value.agg qs[b].1.toArray) = Value.agg cs ∧ cs.size = 2 ∧ ∃ w2 : World, (storeCells (Addr.add ⟨g, 0, none⟩ (Int.toNat (a : Int) * 2)) cs.toList).run Tryz.prog (dr w9 m) = .ok () w2 ∧ ∃ (c : Addr) (n c' : Nat), Value.slice (some ⟨g, 0, none⟩) l.length cap = Value.slice (some c) n c' ∧ ((0 : Int) ≤ (b : Int) ∧ (b : Int) < (n : Int)) ∧ ∃ ds : Array Value, (Value.agg qs[a].1.toArray) = Value.agg ds ∧ ds.size = 2 ∧ ∃ w3 : World, (storeCells (Addr.add c (Int.toNat (b : Int) * 2)) ds.toList).run Tryz.prog w2 = .ok () w3 ∧ inR ((a : Int) + 1) ∧ inR ((b : Int) - 1) ∧ ((∃ qs, 0 ≤ (a : Int) + 1 ∧ (a : Int) + 1 + ((b : Int) - 1) = (l.length : Int) - 1 ∧ (a : Int) + 1 ≤ (b : Int) - 1 + 2 ∧ RvI T w B g l.length cap ps ((a : Int) + 1) ((b : Int) - 1) w3 qs) ∧ ((b : Int) - 1 - ((a : Int) + 1) + 3).toNat < ((b : Int) - (a : Int) + 3).toNat) := by
      obtain ⟨w2, hr2, hf2, ho2⟩ := Own.put (P := Tryz.prog) (o := a * 2) (vs := qs[b].1) om (by rw [lj]; omega) ej.one
      have e2 : (qs.set a qs[b]).flatMap Prod.fst = (qs.flatMap Prod.fst).take (a * 2) ++ qs[b].1 ++ (qs.flatMap Prod.fst).drop (a * 2 + qs[b].1.length) := flat_set hql hal lj
      rw [← e2] at ho2
      have hq2 : ∀ q ∈ qs.set a qs[b], q.1.length = 2 := fun q hq => by
        rcases List.mem_or_eq_of_mem_set hq with hq | rfl
        · exact hql q hq
        · exact lj
      obtain ⟨w3, hr3, hf3, ho3⟩ := Own.put (P := Tryz.prog) (o := b * 2) (vs := qs[a].1) ho2 (by rw [li]; omega) ei.one
      have e3 : ((qs.set a qs[b]).set b qs[a]).flatMap Prod.fst = ((qs.set a qs[b]).flatMap Prod.fst).take (b * 2) ++ qs[a].1 ++ ((qs.set a qs[b]).flatMap Prod.fst).drop (b * 2 + qs[a].1.length) := flat_set hq2 (by simpa using hbl) li
      rw [← e3] at ho3
      refine ⟨_, rfl, by simpa using lj, w2, by rw [at1]; simpa using hr2, _, _, _, rfl, ⟨by omega, by omega⟩, _, rfl, by simpa using li, w3, by rw [at1]; simpa using hr3, by unfold inR; omega, by unfold inR; omega, ⟨(qs.set a qs[b]).set b qs[a], by omega, by omega, by omega, ?_⟩, by omega⟩
      have f3 : Fr (fun b => b = g) w9 w3 := (Fr.of_grow gm).trans (hf2.trans hf3)
      refine ⟨by simpa using hqn, fun k hk => ?_, fun q hq => ?_, ho3, hI.fr.trans f3⟩
      · have hab : a ≠ b := by omega
        have ea := hI.at_ a (by omega)
        have eb := hI.at_ b (by omega)
        rw [if_neg (by omega), List.getElem?_eq_getElem hal] at ea
        rw [if_neg (by omega), List.getElem?_eq_getElem hbl] at eb
        by_cases h1 : k = b
        · subst h1
          rw [List.getElem?_set_self (by simpa using hbl), if_pos (by omega), ea]
          congr 1; omega
        · rw [List.getElem?_set_ne (by omega)]
          by_cases h2 : k = a
          · subst h2
            rw [List.getElem?_set_self hal, if_pos (by omega), eb]
            congr 1; omega
          · rw [List.getElem?_set_ne (by omega), hI.at_ k hk]
            by_cases h3 : (k : Int) < a ∨ (b : Int) < k
            · rw [if_pos h3, if_pos (by omega)]
            · rw [if_neg h3, if_neg (by omega)]
      · have hq' : q ∈ qs := by
          rcases List.mem_or_eq_of_mem_set hq with hq | rfl
          · rcases List.mem_or_eq_of_mem_set hq with hq | rfl
            · exact hq
            · exact List.getElem_mem hbl
          · exact List.getElem_mem hal
        exact (hI.el q hq').later (f3.mono fun b' _ e => .inr (by rw [e]; rfl))
    refine ⟨_, _, _, rfl, ⟨by omega, by omega⟩, _, _, _, rfl, ⟨by omega, by omega⟩, ?_, ?_⟩
    · exact ⟨_, lj, rdj, _, li, rdi, _, _, _, rfl, ⟨by omega, by omega⟩, st⟩
    · exact ⟨_, li, rdi, _, lj, rdj, _, _, _, rfl, ⟨by omega, by omega⟩, st⟩
  · refine ⟨rfl, ⟨qs, ?_, hI.el, ?_⟩, hI.fr.mono fun b' _ e => by rw [e]; rfl⟩
    · rw [← hps, ← List.map_reverse]
      congr 1
      apply List.ext_getElem?
      intro k
      rcases Nat.lt_or_ge k l.length with hk | hk
      · rw [hI.at_ k hk, List.getElem?_reverse (by omega), hpl]
        split
        · rfl
        · have : k = l.length - 1 - k := by omega
          rw [← this]
      · rw [List.getElem?_eq_none (by omega), List.getElem?_eq_none (by simp; omega)]
    · rw [List.length_reverse]
      exact hI.own
/-! ## Rows searched -/
def AsksL (w : World) (f : Value) (L : List (List Int)) (p : List Int → Bool) : Prop :=
  ∃ g fst cap, f = .func (.func g) fst cap ∧ callOK g = true ∧ ∀ x ∈ L, ∀ w' u, Grow w w' → SlI w' u x → Calls Tryz.prog g (fst ++ #[u] ++ cap) w' (Ret w' (.bool (p x)))
theorem indexL_c {w : World} {v f : Value} {L : List (List Int)} {p : List Int → Bool} (hs : SlL w v L) (hf : AsksL w f L p) : Calls Tryz.prog 54 #[v, f] w (Ret w (.int .i64 (idxOf p L))) := by
  refine f54_calls _ _ ?_
  obtain ⟨g, fst, cap, rfl, hg, hcall⟩ := hf
  have hle := SlX.len_le hs
  refine SlX.ln hs ⟨fun t w' => ∃ k : Nat, t = k ∧ k ≤ L.length ∧ Grow w w' ∧ ∀ j (hj : j < L.length), j < k → p L[j] = false, fun t _ => L.length - t.toNat, ⟨0, rfl, by omega, Grow.refl w, fun j _ h => by omega⟩, ?_⟩
  rintro - t w1 ⟨k, rfl, hk, hw, hno⟩
  refine condD (fun hlt => ?_) (fun hge => ?_)
  · have hkl : k < L.length := by omega
    refine SlL.rd1 (hs.gr hw) rfl hkl fun u hu => ⟨g, fst, cap, rfl, hg, (hcall L[k] (List.getElem_mem hkl) w1 u hw hu).mono ?_⟩
    rintro e w2 ⟨rfl, hg2⟩
    refine ⟨_, rfl, condP_i (fun hp => ?_) (fun hp => ?_)⟩
    · exact ⟨by rw [idxOf_some hkl hp hno], hw.trans hg2⟩
    · refine ⟨by unfold inR; omega, ⟨k + 1, by omega, by omega, hw.trans hg2, fun j hj hjk => ?_⟩, by dsimp only; omega⟩
      by_cases e : j = k
      · subst e; exact hp
      · exact hno j hj (by omega)
  · exact ⟨by rw [idxOf_none fun j hj => hno j hj (by omega)], hw⟩
theorem containsL_c {w : World} {v f : Value} {L : List (List Int)} {p : List Int → Bool} (hs : SlL w v L) (hf : AsksL w f L p) : Calls Tryz.prog 23 #[v, f] w (Ret w (.bool (L.any p))) := by
  refine f23_calls _ _ ?_
  refine (indexL_c hs hf).mono ?_
  rintro e w' ⟨rfl, hg⟩
  refine ⟨_, rfl, ?_, hg⟩
  rw [idxOf_any]
end Go.Proofs.YtmjpnfapjcfejaaGreatDoor
