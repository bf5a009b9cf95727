/- Contracts: the first homomorphism, by the program. No condition. -/
import Derived.Test.YtjkphmbjdleppaaMy
import Derived.Test.YtjkphmbjdleppaaMz
namespace Go.Proofs.Ytjkphmbjdleppaa
open Go Go.RowKit VC
set_option linter.unusedSimpArgs false
set_option linter.unusedVariables false

theorem Own.self {w : World} {B : Nat} {e : TypeId} {sz g n c : Nat} {cs : List Value} (h : Own w B e sz (.slice (some ⟨g, 0, none⟩) n c) n cs) : Own w g e sz (.slice (some ⟨g, 0, none⟩) n c) n cs := by
  refine ⟨h.1, .inr ?_⟩
  rcases h.2 with ⟨h1, _⟩ | ⟨g', cap', cur, he, hb, rest⟩
  · cases h1
  · simp only [Value.slice.injEq, Option.some.injEq, Addr.mk.injEq, and_true, true_and] at he
    obtain ⟨rfl, rfl⟩ := he
    exact ⟨_, _, cur, rfl, Nat.le_refl _, rest⟩
/-- A homomorphism, or nil. -/
def HomV (w : World) (v : Value) : Option (List Int) → Prop
  | none => v = .slice none 0 0
  | some h => SlI w v h ∧ ∃ a n c, v = .slice (some a) n c
theorem HomV.gr {w w' : World} {v : Value} {o : Option (List Int)} (h : HomV w v o) (g : Grow w w') : HomV w' v o := by
  cases o with
  | none => exact h
  | some x => exact ⟨h.1.grow g, h.2⟩
/-- What is set of the Heads' first k. -/
structure HdI (hp hq : List Int) (k : Nat) (h : List Int) : Prop where
  len : h.length = 8
  set : ∀ i, i < 8 → (h.getD i 0 ≠ 99 ↔ ∃ j, j < k ∧ ∃ hj : j < hp.length, (hp[j]).toNat = i)
  val : ∀ j (hj : j < hp.length), j < k → h.getD (hp[j]).toNat 0 = hq.getD j 0
theorem hom_c {w : World} {hpv bpv hqv bqv : Value} {hp hq : List Int} {bp bq : List Atm} (shp : SlI w hpv hp) (sbp : SlA w bpv bp) (shq : SlI w hqv hq) (sbq : SlA w bqv bq) (okp : okQ hp bp = true) (okq : okQ hq bq = true) (hlen : hp.length = hq.length) :
    Calls Try.prog 66 #[.agg #[hpv, bpv], .agg #[hqv, bqv]] w fun e w' => ∃ v o, e = .returned v ∧ FirstL (IsHom hp bp hq bq) o ∧ HomV w' v o ∧ Grow w w' := by
  refine f66_calls _ _ ?_
  refine ⟨_, rfl, fun w1 hw1 => ⟨_, rfl, fun w3 hw3 w5 hw5 => ?_⟩⟩
  have g1 := alloc_grow hw1
  have g3 := alloc_grow hw3
  have g5 := alloc_grow hw5
  have s1 := alloc_size hw1
  have s3 := alloc_size hw3
  have s5 := alloc_size hw5
  have g05 := (g1.trans g3).trans g5
  have p0 := (g3.trans g5).cell (boxc hw1 0 hpv rfl)
  have p1 := (g3.trans g5).cell (boxc hw1 1 bpv rfl)
  have q0 := g5.cell (boxc hw3 0 hqv rfl)
  have q1 := g5.cell (boxc hw3 1 bqv rfl)
  have h99 := slI_lit (xs := [99]) hw5 rfl (by simp)
  refine (repeat_c (n := 8) (z := 99) h99 (by omega) (by omega)).mono ?_
  rintro e w6 ⟨g, rfl, how6, g6⟩
  have hg1 := (Own.lt how6 (k := g) rfl)
  have ho6 : OwnH w6 g (List.replicate 8 99) := by
    have h9 : Own w6 w5.heap.size 3 1 (.slice (some ⟨g, 0, none⟩) 8 8) 8 ((List.replicate 8 (99 : Int)).map VC.encI) := how6
    exact Own.self h9
  refine ⟨_, rfl, fun w9 hw9 => ?_⟩
  have g9 := alloc_grow hw9
  have s9 := alloc_size hw9
  have hb9 := Box.new hw9
  refine ⟨Own.one ho6, ⟨_, hb9.cell⟩, hb9.free, fun w10 hw10 => ?_⟩
  have hb10 := hb9.set hw10
  have f10 : Fr (fun k => k = w6.heap.size) w9 w10 := set_fr hw10
  have g610 : Grow w6 w10 := g9.fr f10 fun i hi e => by omega
  have g510 := g6.trans g610
  have ho10 : OwnH w10 g (List.replicate 8 99) := Own.grow ho6 g610
  have hhp := okQ_head okp
  have hhq := okQ_head okq
  have obp : ∀ a ∈ bp, okA a = true := fun a ha => by
    simp only [okQ, Bool.and_eq_true, List.all_eq_true] at okp
    exact okp.1.2 a ha
  have hvl := varsB_lt obp
  have hbl := okQ_len okp
  have hql := okQ_len okq
  have gK : ∀ {w'}, Fr (fun k => k = g) w10 w' → Grow w5 w' := fun {w'} hf => g510.fr hf fun i hi e => by omega
  have hc : ∀ {w'}, Fr (fun k => k = g) w10 w' → ∀ {a : Addr} {v : Value}, w5.cell? a = some v → w'.cell? a = some v := fun {w'} hf {a v} h => (gK hf).cell h
  have hbx : ∀ {w'}, Fr (fun k => k = g) w10 w' → w'.cell? ⟨w6.heap.size, 0, none⟩ = some (.slice (some ⟨g, 0, none⟩) 8 8) := fun {w'} hf => hf.cell hb10.cell (by show ¬ w6.heap.size = g; omega)
  refine ⟨_, hc (Fr.refl _ _) p0, (shp.grow (g05.trans g510)).ln ?_⟩
  refine ⟨fun t w' => ∃ (k : Nat) (h : List Int), t = k ∧ k ≤ hp.length ∧ OwnH w' g h ∧ Fr (fun k => k = g) w10 w' ∧ HdI hp hq k h, fun t _ => hp.length - t.toNat, ⟨0, _, rfl, by omega, ho10, Fr.refl _ _, ⟨by simp, fun i hi => by
    have : (List.replicate 8 (99 : Int)).getD i 0 = 99 := by rw [List.getD, List.getElem?_replicate, if_pos hi]; rfl
    rw [this]
    simp, fun j _ hj => by omega⟩⟩, ?_⟩
  rintro - t w19 ⟨k, h, rfl, hk, how, hf, hI⟩
  have hl8 := hI.len
  have gw : ∀ {w'}, Fr (fun k => k = g) w10 w' → Grow w w' := fun {w'} hf => g05.trans (gK hf)
  refine condD (fun hlt => ?_) (fun hge => ?_)
  · have hkl : k < hp.length := by omega
    have hkq : k < hq.length := by omega
    obtain ⟨x, hx⟩ : ∃ x : Nat, hp[k] = x := ⟨(hp[k]).toNat, by have := hhp _ (List.getElem_mem hkl); omega⟩
    have hx8 : x < 8 := by have := hhp _ (List.getElem_mem hkl); omega
    have hxl : x < h.length := by omega
    have hgx : h.getD x 0 = h[x] := by simp [List.getD, hxl]
    have hgq : hq.getD k 0 = hq[k] := by simp [List.getD, hkq]
    have hq7 := hhq _ (List.getElem_mem hkq)
    have aX : Addr.add ⟨g, 0, none⟩ (Int.toNat (x : Int) * 1) = ⟨g, x, none⟩ := by rw [Int.toNat_natCast, Nat.mul_one, Addr.add0]
    -- the store, and what holds then
    have how8 : ∀ {w'}, Grow w19 w' → Own w' g 3 1 (.slice (some ⟨g, 0, none⟩) 8 8) 8 (h.map VC.encI) := fun gg => by
      have h9 : Own _ g 3 1 (.slice (some ⟨g, 0, none⟩) 8 8) h.length (h.map VC.encI) := Own.grow how gg
      rwa [hl8] at h9
    have nextI : (h[x] = 99 ∨ h[x] = hq[k]) → HdI hp hq (k + 1) (h.set x hq[k]) := fun hor => by
      have gs : ∀ i, (h.set x hq[k]).getD i 0 = if i = x then hq[k] else h.getD i 0 := fun i => getD_set h (by omega) _
      refine ⟨by simpa using hl8, fun i hi => ?_, fun j hj hjk => ?_⟩
      · rw [gs]
        by_cases e : i = x
        · subst e
          rw [if_pos rfl]
          exact ⟨fun _ => ⟨k, by omega, hkl, by rw [hx]; simp⟩, fun _ => by omega⟩
        · rw [if_neg e, hI.set i hi]
          constructor
          · rintro ⟨j, hj, hj2, hj3⟩
            exact ⟨j, by omega, hj2, hj3⟩
          · rintro ⟨j, hj, hj2, hj3⟩
            refine ⟨j, ?_, hj2, hj3⟩
            rcases Nat.lt_or_ge j k with h9 | h9
            · exact h9
            · have : j = k := by omega
              subst this
              rw [hx] at hj3
              simp at hj3
              omega
      · rw [gs]
        by_cases e : (hp[j]).toNat = x
        · rw [if_pos e]
          rcases Nat.lt_or_ge j k with h9 | h9
          · have h1 := hI.val j hj h9
            rw [e] at h1
            rcases hor with h2 | h2
            · exfalso
              have := (hI.set x hx8).2 ⟨j, h9, hj, e⟩
              exact this (by rw [hgx]; exact h2)
            · rw [← h1, hgx]; exact h2.symm
          · have : j = k := by omega
            subst this
            rw [hgq]
        · rw [if_neg e]
          rcases Nat.lt_or_ge j k with h9 | h9
          · exact hI.val j hj h9
          · have : j = k := by omega
            subst this
            rw [hx] at e
            simp at e
    have st : ∀ {w'}, Grow w19 w' → (h[x] = 99 ∨ h[x] = hq[k]) → ∃ (a : Addr) (n c : Nat), Value.slice (some ⟨g, 0, none⟩) 8 8 = Value.slice (some a) n c ∧ ((0 : Int) ≤ (x : Int) ∧ (x : Int) < (n : Int)) ∧ (∃ old, w'.cell? (a.add (Int.toNat (x : Int) * 1)) = some old) ∧ w'.frozen? (a.add (Int.toNat (x : Int) * 1)) = false ∧ ∀ w2, w2 = w'.setCell (a.add (Int.toNat (x : Int) * 1)) (Value.int .i64 hq[k]) →
        inR ((k : Int) + 1) ∧ ((∃ (k' : Nat) (h : List Int), (k : Int) + 1 = k' ∧ k' ≤ hp.length ∧ OwnH w2 g h ∧ Fr (fun k => k = g) w10 w2 ∧ HdI hp hq k' h) ∧ hp.length - Int.toNat ((k : Int) + 1) < hp.length - Int.toNat (k : Int)) := fun {w'} gg hor => by
      refine ⟨_, _, _, rfl, ⟨by omega, by omega⟩, ?_⟩
      rw [aX]
      · refine ⟨(Own.wr (how8 gg) hx8).1, (Own.wr (how8 gg) hx8).2, fun w2 hw2 => ⟨by unfold inR; omega, ⟨k + 1, h.set x hq[k], by omega, by omega, ?_, (hf.trans (Fr.of_grow gg)).trans (set_fr hw2), nextI hor⟩, by omega⟩⟩
        have h9 := Own.set (how8 gg) hx8 hw2
        have e : (h.map VC.encI).set x (Value.int .i64 hq[k]) = (h.set x hq[k]).map VC.encI := by
          rw [show Value.int .i64 hq[k] = VC.encI hq[k] from rfl, ← List.map_set]
        rw [e] at h9
        show Own w2 g 3 1 (.slice (some ⟨g, 0, none⟩) 8 8) (h.set x hq[k]).length ((h.set x hq[k]).map VC.encI)
        rw [show (h.set x hq[k]).length = 8 by simpa using hl8]
        exact h9
    have hSl : ∀ {w'}, Grow w19 w' → SlI w' (.slice (some ⟨g, 0, none⟩) 8 8) h := fun gg => Own.slI (Own.grow how gg)
    have bx : ∀ {w'}, Grow w19 w' → w'.cell? ⟨w6.heap.size, 0, none⟩ = some (.slice (some ⟨g, 0, none⟩) 8 8) := fun gg => hbx (hf.trans (Fr.of_grow gg))
    have qx : ∀ {w'}, Grow w19 w' → w'.cell? (Addr.add ⟨w1.heap.size, 0, none⟩ 0) = some hqv := fun gg => hc (hf.trans (Fr.of_grow gg)) q0
    have rq : ∀ {w'}, Grow w19 w' → SlI w' hqv hq := fun gg => shq.grow (gw (hf.trans (Fr.of_grow gg)))
    have r0 : Grow w19 w19 := Grow.refl _
    refine (shp.grow (gw hf)).rd rfl hkl ?_
    rw [hx]
    refine ⟨_, bx r0, (hSl r0).rd (j := (x : Int)) rfl hxl (condP_i (fun h9 => ?_) fun h9 => ?_)⟩
    · have h9 : ¬ h[x] = 99 := by simpa using h9
      refine ⟨_, bx r0, (hSl r0).rd (j := (x : Int)) rfl hxl ⟨_, qx r0, (rq r0).rd rfl hkq fun m => condP_i (fun h10 => ?_) fun h10 m2 => ?_⟩⟩
      · have h10 : ¬ h[x] = hq[k] := by simpa using h10
        refine ⟨_, none, rfl, fun f hF => ?_, rfl, (gw hf).dr m⟩
        obtain ⟨j, hjk, hj, hjx⟩ := (hI.set x hx8).1 (by rw [hgx]; exact h9)
        have a1 := hI.val j hj hjk
        have a2 := hF.head j hj
        have a3 := hF.head k hkl
        rw [hx, Int.toNat_natCast] at a3
        rw [hjx] at a1 a2
        exact h10 (by rw [← hgx, a1, ← a2, a3, hgq])
      · have h10 : h[x] = hq[k] := by simpa using h10
        have gd : Grow w19 (dr (dr w19 m) m2) := ((Grow.refl w19).dr m).dr m2
        obtain ⟨qa, qn, qc, eqv, hqb, z, hz, hze⟩ := (rq gd).rd (j := (k : Int)) (K := fun t => t = hq[k]) rfl hkq rfl
        rw [hze] at hz
        repeat' first
          | exact st gd (.inr h10)
          | refine ⟨_, bx gd, ?_⟩
          | refine ⟨_, qx gd, ?_⟩
          | refine ⟨qa, qn, qc, eqv, hqb, ?_⟩
          | refine ⟨_, hz, ?_⟩
          | refine And.intro ?_ ?_
    · have h9 : h[x] = 99 := by simpa using h9
      intro m m2
      have gd : Grow w19 (dr (dr w19 m) m2) := ((Grow.refl w19).dr m).dr m2
      obtain ⟨qa, qn, qc, eqv, hqb, z, hz, hze⟩ := (rq gd).rd (j := (k : Int)) (K := fun t => t = hq[k]) rfl hkq rfl
      rw [hze] at hz
      repeat' first
        | exact st gd (.inl h9)
        | refine ⟨_, bx gd, ?_⟩
        | refine ⟨_, qx gd, ?_⟩
        | refine ⟨qa, qn, qc, eqv, hqb, ?_⟩
        | refine ⟨_, hz, ?_⟩
        | refine And.intro ?_ ?_
  · have hkl : k = hp.length := by omega
    subst hkl
    refine ⟨[_, _], rfl, two (hc hf p0) (hc hf p1), (queryVars_c (sbp.gr (gw hf)) obp).mono ?_⟩
    rintro e w96 ⟨rfl, g96⟩
    refine ⟨_, rfl, fun w99 hw99 => ?_⟩
    have g99 := alloc_grow hw99
    have s99 := alloc_size hw99
    have hb99 := Box.new hw99
    refine ⟨⟨_, hb99.cell⟩, hb99.free, fun w100 hw100 => ?_⟩
    have hb100 := hb99.set hw100
    have g100 : Grow w96 w100 := g99.fr (set_fr hw100) fun i hi e => by
      have e : i = w96.heap.size := e
      omega
    intro w101 hw101
    have g101 := alloc_grow hw101
    have s101 := alloc_size hw101
    have hb101 := Box.new hw101
    refine ⟨⟨rfl, rfl⟩, ⟨_, hb101.cell⟩, hb101.free, fun w102 hw102 => ?_⟩
    have hb102 := hb101.set hw102
    have g102 : Grow w100 w102 := g101.fr (set_fr hw102) fun i hi e => by
      have e : i = w100.heap.size := e
      omega
    have g19_102 : Grow w19 w102 := (g96.trans g100).trans g102
    have hf102 := hf.trans (Fr.of_grow g19_102)
    have hs19 := hf.size
    have hs96 := g96.size
    have hs100 := g100.size
    have E : HomEnv w5 w102 g bpv bqv bp bq ⟨w.heap.size, 0, none⟩ ⟨w6.heap.size, 0, none⟩ ⟨w1.heap.size, 0, none⟩ ⟨w96.heap.size, 0, none⟩ ⟨w100.heap.size, 0, none⟩ := by
      have s10 := f10.size
      refine ⟨hc hf102 p1, hc hf102 q1, hbx hf102, g102.cell hb100.cell, hb102.cell, ?_, ?_, ?_, ?_, ?_, sbp.gr g05, sbq.gr g05, gK hf102, hg1.1⟩
      all_goals show ¬ _ = g
      all_goals dsimp only
      all_goals omega
    have hS : StH hp bp hq 0 h := by
      refine ⟨hl8, fun i hi hn => ?_, fun i hi => by omega, fun j hj => hI.val j hj hj⟩
      obtain ⟨j, hjk, hj, hjx⟩ := (hI.set i hi).1 hn
      have hm := List.getElem_mem hj
      have h1 := hhp _ hm
      have hv := hI.val j hj hjk
      rw [hjx] at hv
      have hjq : j < hq.length := by omega
      have h2 := hhq _ (List.getElem_mem hjq)
      have hgq : hq.getD j 0 = hq[j] := by simp [List.getD, hjq]
      refine ⟨?_, by rw [hv, hgq]; omega, by rw [hv, hgq]; omega⟩
      simp only [okQ, Bool.and_eq_true, List.all_eq_true] at okp
      have := okp.2 _ hm
      simp only [okH, Bool.and_eq_true, decide_eq_true_eq] at this
      rw [hjx] at this
      exact this.2
    refine ⟨_, hb102.cell, _, #[], _, rfl, by kernel_rfl, ?_⟩
    refine (try_c E okp okq hlen 8 0 h w102 (by omega) (by omega) (Fr.refl _ _) (Own.grow how g19_102) hS).mono ?_
    rintro e w104 ⟨b, h', rfl, hf104, ho104, hb104⟩
    have hag : ∀ f, AgH hp bp hq bq h f ↔ IsHom hp bp hq bq f := fun f => ⟨fun hA => hA.1, fun hF => ⟨hF, fun i hi hn => by
      obtain ⟨j, hjk, hj, hjx⟩ := (hI.set i hi).1 hn
      have a1 := hI.val j hj hjk
      have a2 := hF.head j hj
      rw [hjx] at a1 a2
      rw [a1, a2]⟩⟩
    have gE := gw (hf102.trans hf104)
    refine ⟨_, rfl, condP_i (fun hbf => ?_) fun hbt => ?_⟩
    · have hbf : b = false := by simpa using hbf
      subst hbf
      rw [if_neg (by simp)] at hb104
      exact ⟨_, none, rfl, hb104.2.congr hag, rfl, gE⟩
    · have hbt : b = true := by simpa using hbt
      subst hbt
      rw [if_pos rfl] at hb104
      exact ⟨_, hbx (hf102.trans hf104), _, some h', rfl, hb104.congr hag, ⟨Own.slI ho104, _, _, _, rfl⟩, gE⟩
end Go.Proofs.Ytjkphmbjdleppaa
