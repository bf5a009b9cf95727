/- Contracts: the reference's search for the first homomorphism. No condition. -/
import Derived.Test.YtjkphmbjdleppaaNb
namespace Go.Proofs.Ytjkphmbjdleppaa
open Go Go.RowKit VC
set_option linter.unusedSimpArgs false
set_option linter.unusedVariables false

/-- All of a slice, without room. -/
theorem SlI.cut {w : World} {v : Value} {xs : List Int} (h : SlI w v xs) : ∃ (a : Option Addr) (n c : Nat), v = .slice a n c ∧ ∃ l hh m : Nat, sbR none (some (.int .i64 (xs.length : Int))) (some (.int .i64 (xs.length : Int))) n c l hh m ∧
    ∃ a', (Value.slice (if m = l then a else a.map (·.add (l * 1))) (hh - l) (m - l)) = .slice a' xs.length xs.length ∧ SlI w (.slice a' xs.length xs.length) xs := by
  obtain ⟨a, c, rfl, h1, h2, h3, h4⟩ := h.ex
  refine ⟨a, _, c, rfl, 0, xs.length, xs.length, ⟨rfl, rfl, rfl, by simp, by omega, by omega, by omega⟩, a, ?_, ?_⟩
  · cases a with
    | none => simp
    | some b => simp [Addr.add]
  · refine ⟨a, xs.length, rfl, ?_, ?_, ?_, h4⟩
    · simp
    · omega
    · intro e
      have := h3 e
      omega
/-- What begins so. -/
def PreH (hp : List Int) (bp : List Atm) (hq : List Int) (bq : List Atm) (b : List Int) (g : List Int) : Prop := IsHom hp bp hq bq g ∧ g.take b.length = b
section
variable {hp hq : List Int} {bp bq : List Atm} {b g : List Int}
theorem PreH.put (hb : b.length < 8) (h : PreH hp bp hq bq b g) : PreH hp bp hq bq (b ++ [g.getD b.length 0]) g := by
  refine ⟨h.1, ?_⟩
  have hl : b.length < g.length := by rw [h.1.len]; exact hb
  rw [List.length_append, List.length_singleton, List.take_succ_eq_append_getElem hl, h.2]
  simp [List.getD, hl]
theorem PreH.get {x : Int} (hb : b.length < 8) (h : PreH hp bp hq bq (b ++ [x]) g) : PreH hp bp hq bq b g ∧ g.getD b.length 0 = x := by
  have hl : b.length < g.length := by rw [h.1.len]; exact hb
  have e := h.2
  rw [List.length_append, List.length_singleton, List.take_succ_eq_append_getElem hl] at e
  have := List.append_inj e (by simp; omega)
  refine ⟨⟨h.1, this.1⟩, ?_⟩
  have h2 : g[b.length] = x := by simpa using this.2
  rw [← h2]
  simp [List.getD, hl]
theorem pre_some {x : Int} {r : List Int} (hb : b.length < 8) (hbit : (varsB bp).testBit b.length = true) (hno : ∀ x', -9 ≤ x' → x' < x → ∀ g, ¬ PreH hp bp hq bq (b ++ [x']) g) (hr : FirstL (PreH hp bp hq bq (b ++ [x])) (some r)) : FirstL (PreH hp bp hq bq b) (some r) := by
  obtain ⟨hr1, hr2⟩ := hr
  obtain ⟨hr3, hr4⟩ := hr1.get hb
  refine ⟨hr3, fun g hg => ?_⟩
  have hgt := hg.1.occ _ hb
  rw [if_pos hbit] at hgt
  rcases Int.lt_trichotomy (g.getD b.length 0) x with h1 | h1 | h1
  · exact absurd (hg.put hb) (hno _ hgt.1 h1 g)
  · exact hr2 g (h1 ▸ hg.put hb)
  · have hrl := hr3.1.len
    have hgl := hg.1.len
    have e1 : r.getD b.length 0 = r[b.length] := by simp [List.getD, hrl, hb]
    have e2 : g.getD b.length 0 = g[b.length] := by simp [List.getD, hgl, hb]
    have := cmpL_at (g := r) (h := g) (x := b.length) (by omega) (by omega) (by rw [hr3.2, hg.2]) (by omega)
    omega
end
theorem refTry_c {hpv bpv hqv bqv : Value} {hp hq : List Int} {bp bq : List Atm} (okp : okQ hp bp = true) (okq : okQ hq bq = true) (hlen : hp.length = hq.length) : ∀ (n : Nat) (h : List Int) (hv : Value) (w : World), 8 - h.length ≤ n → h.length ≤ 8 → SlI w hv h → SlI w hpv hp → SlA w bpv bp → SlI w hqv hq → SlA w bqv bq →
    Calls Try.prog 67 #[.agg #[hpv, bpv], .agg #[hqv, bqv], hv] w fun e w' => ∃ v o, e = .returned v ∧ FirstL (PreH hp bp hq bq h) o ∧ HomV w' v o ∧ Grow w w' := by
  intro n
  induction n using Nat.strongRecOn with
  | ind n IH =>
  intro h hv w hn h8 sh shp sbp shq sbq
  refine f67_calls _ _ _ ?_
  refine ⟨_, rfl, fun w1 hw1 => ⟨_, rfl, fun w3 hw3 => ?_⟩⟩
  have g1 := alloc_grow hw1
  have g3 := alloc_grow hw3
  have g03 := g1.trans g3
  have p0 := g3.cell (boxc hw1 0 hpv rfl)
  have p1 := g3.cell (boxc hw1 1 bpv rfl)
  have q0 := boxc hw3 0 hqv rfl
  have q1 := boxc hw3 1 bqv rfl
  have obp : ∀ a ∈ bp, okA a = true := fun a ha => by
    simp only [okQ, Bool.and_eq_true, List.all_eq_true] at okp
    exact okp.1.2 a ha
  refine sh.ln (condD (fun e8 => ?_) fun e8 => ?_)
  · have e8 : h.length = 8 := by omega
    refine ⟨[_, _], rfl, two p0 p1, [_, _], rfl, two q0 q1, (refIsHom_c (shp.grow g03) (sbp.gr g03) (shq.grow g03) (sbq.gr g03) (sh.grow g03) okp okq hlen).mono ?_⟩
    rintro e w10 ⟨b, rfl, hb, g10⟩
    have same : ∀ g, PreH hp bp hq bq h g → g = h := fun g hg => by
      have := hg.2
      rwa [List.take_of_length_le (by rw [hg.1.len]; omega)] at this
    refine ⟨_, rfl, condP_i (fun ht => ?_) fun hf => ?_⟩
    · refine ⟨hv, some h, rfl, ⟨⟨hb.1 ht, List.take_length⟩, fun g hg => ?_⟩, ⟨sh.grow (g03.trans g10), ?_⟩, g03.trans g10⟩
      · rw [same g hg, cmpL_self]
        omega
      · obtain ⟨a, m, c, rfl, -⟩ := sh.rd (i := 0) (j := 0) (K := fun _ => True) rfl (by omega) trivial
        exact ⟨a, m, c, rfl⟩
    · refine ⟨_, none, rfl, fun g hg => ?_, rfl, g03.trans g10⟩
      have := hg.1
      rw [same g hg, ← hb, hf] at this
      cases this
  have l8 : h.length < 8 := by omega
  refine ⟨[_, _], rfl, two p0 p1, (refAll_c (sbp.gr g03) obp).mono ?_⟩
  rintro e w14 ⟨rfl, g14⟩
  have g014 := g03.trans g14
  have pp : ∀ {E}, Grow w14 E → ∀ (t : Nat) (v : Value), [hpv, bpv][t]? = some v → E.cell? (Addr.add ⟨w.heap.size, 0, none⟩ t) = some v := fun g => two ((g14.trans g).cell p0) ((g14.trans g).cell p1)
  have qq : ∀ {E}, Grow w14 E → ∀ (t : Nat) (v : Value), [hqv, bqv][t]? = some v → E.cell? (Addr.add ⟨w1.heap.size, 0, none⟩ t) = some v := fun g => two ((g14.trans g).cell q0) ((g14.trans g).cell q1)
  have recC : ∀ {E : World} {v' : Value} {z : Int}, SlI E v' (h ++ [z]) → Grow w14 E → Calls Try.prog 67 #[.agg #[hpv, bpv], .agg #[hqv, bqv], v'] E fun e w' => ∃ v o, e = .returned v ∧ FirstL (PreH hp bp hq bq (h ++ [z])) o ∧ HomV w' v o ∧ Grow E w' := fun {E v' z} hs g => IH (n - 1) (by omega) _ _ _ (by simp; omega) (by simp; omega) hs (shp.grow (g014.trans g)) (sbp.gr (g014.trans g)) (shq.grow (g014.trans g)) (sbq.gr (g014.trans g))
  refine ⟨_, rfl, by omega, condD (fun hz m => ?_) fun hz => ?_⟩
  · have hbit := (bit_zero (by omega)).1 hz
    obtain ⟨wd, ewd⟩ : ∃ wd, wd = dr w14 m := ⟨_, rfl⟩
    have gd : Grow w14 wd := by rw [ewd]; exact (Grow.refl w14).dr m
    rw [← ewd]
    obtain ⟨a, sn, c, ev, l, hh, mm, hsb, a', ecut, hcut⟩ := SlI.cut (sh.grow (g014.trans gd))
    refine ⟨a, sn, c, ev, l, hh, mm, hsb, ?_⟩
    rw [ecut]
    have fin : ∀ {E : World} {v' : Value}, SlI E v' (h ++ [99]) → Grow w14 E → Calls Try.prog 67 #[.agg #[hpv, bpv], .agg #[hqv, bqv], v'] E fun e w' => ∃ t, e = .returned t ∧ ∃ v o, Ending.returned t = .returned v ∧ FirstL (PreH hp bp hq bq h) o ∧ HomV w' v o ∧ Grow w w' := fun hs g => (recC hs g).mono (by
      rintro e w' ⟨v, o, rfl, hF, hV, g'⟩
      refine ⟨v, rfl, v, o, rfl, hF.congr fun f => ⟨fun hf => (hf.get l8).1, fun hf => ?_⟩, hV, (g014.trans g).trans g'⟩
      have h9 := hf.put l8
      have ho := hf.1.occ _ l8
      rw [if_neg (by rw [hbit]; simp)] at ho
      rwa [ho] at h9)
    have app : ∀ {wl : World} {K : Value → World → Prop}, wl = wd.alloc (.cells #[.int .i64 99] 3) → (∀ v' w', SlI w' v' (h ++ [99]) → Grow wd w' → K v' w') → PApp Try.prog 22 22 (.slice a' h.length h.length) (.slice (some ⟨wd.heap.size, 0, none⟩) 1 1) wl K := fun hwl hk => pappF2 el_int hwl hcut rfl (by omega) fun v' w' ho g => hk v' w' (Own.slI ho) g
    repeat' first
      | exact fin ‹SlI _ _ (h ++ [99])› (gd.trans ‹Grow wd _›)
      | refine ⟨[_, _], rfl, pp gd, ?_⟩
      | refine ⟨[_, _], rfl, qq gd, ?_⟩
      | (refine app ‹_ = World.alloc _ _› ?_; intro v' w28 hs28 g28)
      | refine ⟨[_, _], rfl, pp (gd.trans ‹Grow wd _›), ?_⟩
      | refine ⟨[_, _], rfl, qq (gd.trans ‹Grow wd _›), ?_⟩
      | (intro wl hwl; have gl := alloc_grow hwl)
      | refine And.intro ?_ ?_
  · have hbit : (varsB bp).testBit h.length = true := by
      rw [bit_zero (by omega)] at hz
      simpa using hz
    refine ⟨fun x w' => -9 ≤ x ∧ x ≤ 8 ∧ (∀ x', -9 ≤ x' → x' < x → ∀ g, ¬ PreH hp bp hq bq (h ++ [x']) g) ∧ Grow w14 w', fun x _ => (8 - x).toNat, ⟨by omega, by omega, fun x' h1 h2 => by omega, Grow.refl _⟩, ?_⟩
    rintro - x w109 ⟨hx1, hx2, hno, g109⟩
    refine condD (fun hlt => ?_) (fun hge => ?_)
    · have step : ∀ {w'}, (∀ g, ¬ PreH hp bp hq bq (h ++ [x]) g) → Grow w109 w' → inR (x + 1) ∧ ((-9 ≤ x + 1 ∧ x + 1 ≤ 8 ∧ (∀ x', -9 ≤ x' → x' < x + 1 → ∀ g, ¬ PreH hp bp hq bq (h ++ [x']) g) ∧ Grow w14 w') ∧ (8 - (x + 1)).toNat < (8 - x).toNat) := fun hn g => ⟨by unfold inR; omega, ⟨by omega, by omega, (fun x' h1 h2 => by
          by_cases e : x' = x
          · rw [e]; exact hn
          · exact hno x' h1 (by omega)), g109.trans g⟩, by omega⟩
      obtain ⟨a, sn, c, ev, l, hh, mm, hsb, a', ecut, hcut⟩ := SlI.cut (sh.grow (g014.trans g109))
      refine ⟨a, sn, c, ev, l, hh, mm, hsb, fun wl hwl => ?_⟩
      rw [ecut]
      refine pappF2 el_int hwl hcut rfl (by omega) fun v' w118 ho g118 => ?_
      have g14118 := g109.trans g118
      have g0118 := g014.trans g14118
      have hs := Own.slI ho
      refine ⟨[_, _], rfl, pp g14118, [_, _], rfl, qq g14118, (possible_c (shp.grow g0118) (sbp.gr g0118) (shq.grow g0118) (sbq.gr g0118) hs okp okq hlen (by simp; omega)).mono ?_⟩
      rintro e w121 ⟨b, rfl, hb, g121⟩
      refine ⟨_, rfl, condP_i (fun ht => ?_) fun hf => step (fun g hg => hb hf g hg.1 hg.2) (g118.trans g121)⟩
      have g14121 := g14118.trans g121
      refine ⟨[_, _], rfl, pp g14121, [_, _], rfl, qq g14121, (recC (hs.grow g121) g14121).mono ?_⟩
      rintro e w126 ⟨v, o, rfl, hF, hV, g126⟩
      refine ⟨v, rfl, _, hV.ne, condP_i (fun hs1 => ?_) fun hs0 => step ?_ ((g118.trans g121).trans g126)⟩
      · cases o with
        | none => cases hs1
        | some r => exact ⟨v, some r, rfl, pre_some l8 hbit hno hF, hV, (g014.trans g14121).trans g126⟩
      · cases o with
        | none => exact hF
        | some r => cases hs0
    · have : x = 8 := by omega
      subst this
      refine ⟨_, none, rfl, fun g hg => ?_, rfl, g014.trans g109⟩
      have hgt := hg.1.occ _ l8
      rw [if_pos hbit] at hgt
      exact hno _ hgt.1 (by omega) g (hg.put l8)
theorem refHom_c {w : World} {hpv bpv hqv bqv : Value} {hp hq : List Int} {bp bq : List Atm} (shp : SlI w hpv hp) (sbp : SlA w bpv bp) (shq : SlI w hqv hq) (sbq : SlA w bqv bq) :
    Calls Try.prog 36 #[.agg #[hpv, bpv], .agg #[hqv, bqv]] w fun e w' => ∃ v o, e = .returned (.tuple #[v, .int .i64 (homE hp bp hq bq o)]) ∧ HomA hp bp hq bq o ∧ HomV w' v o ∧ Grow w w' := by
  refine f36_calls _ _ ?_
  refine ⟨_, rfl, fun w1 hw1 => ⟨_, rfl, fun w3 hw3 => ?_⟩⟩
  have g1 := alloc_grow hw1
  have g3 := alloc_grow hw3
  have g03 := g1.trans g3
  have p0 := g3.cell (boxc hw1 0 hpv rfl)
  have p1 := g3.cell (boxc hw1 1 bpv rfl)
  have q0 := boxc hw3 0 hqv rfl
  have q1 := boxc hw3 1 bqv rfl
  have err : ∀ {w'}, Grow w w' → ¬ okPQ hp bp hq bq = true → ∃ v o, Ending.returned (.tuple #[.slice none 0 0, .int .i64 2]) = .returned (.tuple #[v, .int .i64 (homE hp bp hq bq o)]) ∧ HomA hp bp hq bq o ∧ HomV w' v o ∧ Grow w w' := fun g hn => ⟨_, none, by rw [homE, if_neg hn], by rw [HomA, if_neg hn], rfl, g⟩
  refine ⟨[_, _], rfl, two p0 p1, (refValid_c (shp.grow g03) (sbp.gr g03)).mono ?_⟩
  rintro e w6 ⟨rfl, g6⟩
  have g06 := g03.trans g6
  refine ⟨_, rfl, condP_i (fun h1 => err g06 (fun h => by rw [(okPQ_iff.1 h).1] at h1; cases h1)) fun h1 => ?_⟩
  have h1 : okQ hp bp = true := by simpa using h1
  refine ⟨[_, _], rfl, two (g6.cell q0) (g6.cell q1), (refValid_c (shq.grow g06) (sbq.gr g06)).mono ?_⟩
  rintro e w10 ⟨rfl, g10⟩
  have g010 := g06.trans g10
  have g310 := g6.trans g10
  refine ⟨_, rfl, condP_i (fun h2 => err g010 (fun h => by rw [(okPQ_iff.1 h).2.1] at h2; cases h2)) fun h2 => ?_⟩
  have h2 : okQ hq bq = true := by simpa using h2
  refine ⟨_, g310.cell p0, (shp.grow g010).ln ⟨_, g310.cell q0, (shq.grow g010).ln (condP_i (fun h3 => err g010 (fun h => by have := (okPQ_iff.1 h).2.2; simp at h3; omega)) fun h3 => ?_)⟩⟩
  have h3 : hp.length = hq.length := by simp at h3; omega
  have ok : okPQ hp bp hq bq = true := okPQ_iff.2 ⟨h1, h2, h3⟩
  refine ⟨[_, _], rfl, two (g310.cell p0) (g310.cell p1), [_, _], rfl, two (g310.cell q0) (g310.cell q1), (refTry_c h1 h2 h3 8 [] _ _ (by simp) (by simp) (SlI.nil _) (shp.grow g010) (sbp.gr g010) (shq.grow g010) (sbq.gr g010)).mono ?_⟩
  rintro e w23 ⟨v, o, rfl, hF, hV, g23⟩
  have hA : HomA hp bp hq bq o := by
    rw [HomA, if_pos ok]
    exact hF.congr fun g => ⟨fun h => h.1, fun h => ⟨h, by simp⟩⟩
  refine ⟨v, rfl, _, hV.eq, condP_i (fun hn => ?_) fun hn => ?_⟩
  · have : o = none := by simpa using hn
    subst this
    exact ⟨_, none, by rw [homE, if_pos ok]; rfl, hA, rfl, g010.trans g23⟩
  · refine ⟨v, o, ?_, hA, hV, g010.trans g23⟩
    rw [homE, if_pos ok, if_pos]
    cases o with
    | none => cases hn
    | some x => rfl
end Go.Proofs.Ytjkphmbjdleppaa
