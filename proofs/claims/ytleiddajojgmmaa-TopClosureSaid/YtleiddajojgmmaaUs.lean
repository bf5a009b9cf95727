/- Contract: consequences of rules without variables: the least set of Rels that holds the given ones and is closed. No condition. -/
import Derived.Test.YtleiddajojgmmaaUr
import Derived.Test.YtleiddajojgmmaaMv
namespace Go.Proofs.Ytleiddajojgmmaa
open Go Go.RowKit VC
set_option linter.unusedSimpArgs false
set_option linter.unusedVariables false

def ClosedR (RL : List (Nat × List Nat)) (T : Nat → Prop) : Prop := ∀ r ∈ RL, (∀ b ∈ r.2, T b) → T r.1
/-- Of the closed sets that hold S0, S is the least. -/
structure LeastR (RL : List (Nat × List Nat)) (S0 S : List Nat) : Prop where
  base : ∀ r ∈ S0, r ∈ S
  closed : ClosedR RL fun r => r ∈ S
  least : ∀ T : Nat → Prop, (∀ r ∈ S0, T r) → ClosedR RL T → ∀ r ∈ S, T r
theorem MapF.size {c : Nat} {w : World} {b : Nat} {S : List Nat} (h : MapF c w b S) : mapSize w b = S.length := by
  obtain ⟨es, k, h1, h2, -⟩ := h.ex
  unfold mapSize
  rw [h1]
  have := congrArg List.length h2
  simpa using this
theorem len8 {S : List Nat} (hn : S.Nodup) (h8 : ∀ r ∈ S, r < 8) : S.length ≤ 8 := by
  have h := sub_len hn (l' := List.range 8) fun r hr => List.mem_range.2 (h8 r hr)
  simpa using h
theorem consequences_c {c : Nat} (hc : 1 ≤ c) {w : World} {lv nv : Value} {RL : List (Nat × List Nat)} {gb : Nat} {S0 : List Nat} (hl : SlX 3 (repRule c) w lv RL) (hb : ∀ r ∈ RL, r.1 < 6) (hRL : RL.length ≤ 100) (hS : MapF c w gb S0) (hnd : S0.Nodup) (hnv : oneV nv) :
    Calls Try.prog 70 #[lv, .map (some gb), nv] w fun e w' => ∃ b S, e = .returned (.map (some b)) ∧ MapF c w' b S ∧ S.Nodup ∧ LeastR RL S0 S ∧ Grow w w' := by
  refine f70_calls _ _ _ ?_
  refine MapF.make hS.c8 _ _ fun w1 hw1 hm1 g1 z1 => fun w3 hw3 => ?_
  have g3 := alloc_grow hw3
  have z3 := alloc_size hw3
  obtain ⟨M, eM⟩ : ∃ M, M = w.heap.size := ⟨_, rfl⟩
  obtain ⟨OV, eOV⟩ : ∃ OV, OV = w1.heap.size := ⟨_, rfl⟩
  have bx3 := Box.new hw3
  rw [← eOV] at bx3 ⊢
  rw [← eM] at hm1 ⊢
  refine ⟨⟨rfl, rfl⟩, ⟨_, bx3.cell⟩, bx3.free, fun w4 hw4 => ?_⟩
  have bx4 := bx3.set hw4
  have f4 : Fr (fun i => i = OV) w3 w4 := set_fr hw4
  have z4 := f4.size
  have g04 : Grow w w4 := (g1.trans g3).fr f4 fun i hi e => by omega
  have hm4 : MapF c w4 M [] := (hm1.grow g3).fr f4 (by omega)
  have ltg : gb < w.heap.size := hS.lt
  refine MapF.range map_und.1 (hS.grow g04) fun w5 hit g5 z5 => ?_
  obtain ⟨IT, eIT⟩ : ∃ IT, IT = w4.heap.size := ⟨_, rfl⟩
  rw [← eIT] at hit ⊢
  have g05 := g04.trans g5
  have hm5 := hm4.grow g5
  have bx5 := bx4.grow g5
  have hl5 := hl.grow (repRule_mono c) g05
  refine ⟨fun w' => ∃ (left S : List Nat), ItF c w' gb IT S0 left ∧ MapF c w' M S ∧ S.Nodup ∧ (∀ r, r ∈ S ↔ r ∈ S0 ∧ r ∉ left) ∧ left.Nodup ∧ (∀ r ∈ left, r ∈ S0) ∧ Fr (fun i => i = IT ∨ i = M) w5 w', fun w' => itLeftF w' gb IT, ⟨S0, [], hit, hm5, by simp, fun r => by simp, hnd, fun r hr => hr, Fr.refl _ _⟩, ?_⟩
  rintro - w10 ⟨left, S, hI, hm, hSn, hSm, hln, hls, f10⟩
  rcases hI.next (P := Try.prog) (by omega : IT ≠ gb) 0 with ⟨rfl, hrun⟩ | ⟨p, left', w18, hperm, hrun, hI18, f18, hent⟩
  · refine .inl ⟨_, hrun, ?_⟩
    have hS0 : ∀ r, r ∈ S ↔ r ∈ S0 := fun r => by rw [hSm]; simp
    clear hw3 hw4 hw1
    refine ⟨fun again w' => ∃ S, MapF c w' M S ∧ S.Nodup ∧ (∀ r ∈ S0, r ∈ S) ∧ (∀ T : Nat → Prop, (∀ r ∈ S0, T r) → ClosedR RL T → ∀ r ∈ S, T r) ∧ (again = false → ClosedR RL fun r => r ∈ S) ∧ Fr (fun i => i = IT ∨ i = M) w5 w', fun again w' => if again = true then 9 - mapSize w' M else 0, ⟨S, hm, hSn, fun r hr => (hS0 r).2 hr, fun T h1 h2 r hr => h1 r ((hS0 r).1 hr), (fun h => by cases h), f10⟩, ?_⟩
    clear hI hm hSn hSm hS0 f10 hln hls hrun S
    rintro - again w19 ⟨S, hm, hSn, hbase, hleast, hcl, f19⟩
    have bx19 : Box w19 OV (.map (some M)) := bx5.fr f19 (by omega)
    have g019 : Grow w w19 := g05.fr f19 fun i hi e => by omega
    have z19 := f19.size
    have hlen8 := len8 hSn hm.r8
    refine condP_i (fun hag => fun w20 hw20 => ?_) fun hag => ⟨_, bx19.cell, M, S, rfl, hm, hSn, ⟨hbase, hcl hag, hleast⟩, g019⟩
    subst hag
    have g20 := alloc_grow hw20
    have z20 := alloc_size hw20
    obtain ⟨F, eF⟩ : ∃ F, F = w19.heap.size := ⟨_, rfl⟩
    have bxF := Box.new hw20
    rw [← eF] at bxF ⊢
    have g020 := g019.trans g20
    have hl20 := hl.grow (repRule_mono c) g020
    have hle := SlX.len_le hl
    refine SlX.ln hl20 ⟨fun t w' => ∃ (k : Nat) (fs : List Nat) (fv : Value), t = k ∧ k ≤ RL.length ∧ Box w' F fv ∧ OwnKs c w' w20.heap.size fv fs ∧ fs.length ≤ k ∧ (∀ f ∈ fs, f ∉ S ∧ ∃ r ∈ RL, r.1 = f ∧ ∀ b ∈ r.2, b ∈ S) ∧ (∀ r ∈ RL.take k, (∀ b ∈ r.2, b ∈ S) → r.1 ∈ S ∨ r.1 ∈ fs) ∧ Fr (fun i => i = F ∨ w20.heap.size ≤ i) w20 w', fun t _ => RL.length - t.toNat, ⟨0, [], _, rfl, by omega, bxF, Own.nil w20 w20.heap.size 119 3, by simp, by simp, by simp, Fr.refl _ _⟩, ?_⟩
    rintro - t w28 ⟨k, fs, fv, rfl, hk, hF, ho, hfk, hfs, hdone, f28⟩
    have z28 := f28.size
    have g028 : Grow w w28 := g020.fr f28 fun i hi e => by omega
    have hm28 : MapF c w28 M S := (hm.grow g20).fr f28 (by omega)
    have bx28 : Box w28 OV (.map (some M)) := (bx19.grow g20).fr f28 (by omega)
    refine condD (fun hlt => ?_) fun hge => ?_
    · have hkl : k < RL.length := by omega
      have hr6 := hb _ (List.getElem_mem hkl)
      refine SlX.rd (pinS hl g028) rfl hkl ?_
      rintro cs - ⟨uh, bv, rfl, huh, hbv⟩ w33 hw33
      refine RecV.init (cs := [.int .i64 (RL[k].1 : Int), uh, bv]) hw33 rfl (by
        intro y hy
        simp at hy
        rcases hy with rfl | rfl | rfl
        · rfl
        · exact huh.one.2
        · exact hbv.one.2) fun w34 g34 z34 h34 => ?_
      have g034 := g028.trans g34
      have f34 := f28.trans (Fr.of_grow g34)
      refine ⟨_, rfl, h34.all, _, (bx28.grow g34).cell, ?_⟩
      have next : ∀ {w' : World} {fs' : List Nat} {fv' : Value}, Box w' F fv' → OwnKs c w' w20.heap.size fv' fs' → fs'.length ≤ k + 1 → (∀ f ∈ fs', f ∉ S ∧ ∃ r ∈ RL, r.1 = f ∧ ∀ b ∈ r.2, b ∈ S) → (∀ f ∈ fs, f ∈ fs') → ((∀ b ∈ RL[k].2, b ∈ S) → RL[k].1 ∈ S ∨ RL[k].1 ∈ fs') → Fr (fun i => i = F ∨ w20.heap.size ≤ i) w20 w' → inR ((k : Int) + 1) ∧ ((∃ (k' : Nat) (fs : List Nat) (fv : Value), (k : Int) + 1 = k' ∧ k' ≤ RL.length ∧ Box w' F fv ∧ OwnKs c w' w20.heap.size fv fs ∧ fs.length ≤ k' ∧ (∀ f ∈ fs, f ∉ S ∧ ∃ r ∈ RL, r.1 = f ∧ ∀ b ∈ r.2, b ∈ S) ∧ (∀ r ∈ RL.take k', (∀ b ∈ r.2, b ∈ S) → r.1 ∈ S ∨ r.1 ∈ fs) ∧ Fr (fun i => i = F ∨ w20.heap.size ≤ i) w20 w') ∧ RL.length - Int.toNat ((k : Int) + 1) < RL.length - Int.toNat (k : Int)) := fun {w' fs' fv'} a1 a2 a3 a4 a5 a6 a7 => by
        refine ⟨by unfold inR; omega, ⟨k + 1, fs', fv', by omega, by omega, a1, a2, a3, a4, fun r hr hbs => ?_, a7⟩, by omega⟩
        rw [List.take_succ_eq_append_getElem hkl] at hr
        rcases List.mem_append.1 hr with hr | hr
        · exact (hdone r hr hbs).imp id (a5 _)
        · rw [List.mem_singleton.1 hr] at hbs ⊢
          exact a6 hbs
      refine (instances_c hc (K := fun e w' => e = .returned (.tuple #[]) ∧ (inR ((k : Int) + 1) ∧ ((∃ (k' : Nat) (fs : List Nat) (fv : Value), (k : Int) + 1 = k' ∧ k' ≤ RL.length ∧ Box w' F fv ∧ OwnKs c w' w20.heap.size fv fs ∧ fs.length ≤ k' ∧ (∀ f ∈ fs, f ∉ S ∧ ∃ r ∈ RL, r.1 = f ∧ ∀ b ∈ r.2, b ∈ S) ∧ (∀ r ∈ RL.take k', (∀ b ∈ r.2, b ∈ S) → r.1 ∈ S ∨ r.1 ∈ fs) ∧ Fr (fun i => i = F ∨ w20.heap.size ≤ i) w20 w') ∧ RL.length - Int.toNat ((k : Int) + 1) < RL.length - Int.toNat (k : Int)))) (B := RL[k].2) (gf := 105) (fst := #[]) (cap := #[.pointer (some ⟨w28.heap.size, 0, none⟩), .pointer (some ⟨OV, 0, none⟩), .pointer (some ⟨F, 0, none⟩)]) (by kernel_rfl) (hm28.grow g34) hSn (hbv.grow (repLit_mono c) g034) hnv (huh.grow g034).one (fun hall w' gg => ?_) fun hex w' gg => ⟨rfl, next ((hF.grow g34).grow gg) (Own.grow (Own.grow ho g34) gg) (by omega) hfs (fun f hf => hf) (fun hall => by
          obtain ⟨b, hb1, hb2⟩ := hex
          exact absurd (hall b hb1) hb2) (f34.trans (Fr.of_grow gg))⟩)
      refine (cons1_c hc (rh := RL[k].1) (uh := uh) (q1 := ⟨w28.heap.size, 0, none⟩) (aq2 := ⟨OV, 0, none⟩) (F := F) (BF := w20.heap.size) (mb := M) (S := S) (fs := fs) (fv := fv) (fun j y hj => ?_) ((huh.grow g034).grow gg) (((bx28.grow g34).grow gg).cell) ((hm28.grow g34).grow gg) (by omega) ((hF.grow g34).grow gg) (Own.grow (Own.grow ho g34) gg) (by omega) (by have := (g34.trans gg).size; omega) (by omega)).mono ?_
      · rw [add_add]
        match j, hj with
        | 0, hj => exact (h34.grow gg).cell (j := 0) hj
        | 1, hj => exact (h34.grow gg).cell (j := 1) hj
      · rintro e w'' ⟨rfl, ⟨hin, g2⟩ | ⟨hnin, fv', b1, b2, b3⟩⟩
        · exact ⟨rfl, rfl, next (((hF.grow g34).grow gg).grow g2) (Own.grow (Own.grow (Own.grow ho g34) gg) g2) (by omega) hfs (fun f hf => hf) (fun _ => .inl hin) ((f34.trans (Fr.of_grow gg)).trans (Fr.of_grow g2))⟩
        · refine ⟨rfl, rfl, next b1 b2 (by simp; omega) (fun f hf => ?_) (fun f hf => List.mem_append_left _ hf) (fun _ => .inr (List.mem_append_right _ (List.mem_singleton.2 rfl))) ((f34.trans (Fr.of_grow gg)).trans (b3.mono fun i _ e => e.imp id fun h => h.1))⟩
          rcases List.mem_append.1 hf with hf | hf
          · exact hfs f hf
          · rw [List.mem_singleton.1 hf]
            exact ⟨hnin, _, List.getElem_mem hkl, rfl, hall⟩
    · have hkn : k = RL.length := by omega
      subst hkn
      rw [List.take_length] at hdone
      have hsf : SlR (kL3 c) w28 fv fs := Own.slC ho
      have hF8 : ∀ f ∈ fs, f < 8 := fun f hf => by
        obtain ⟨-, r, hr, e, -⟩ := hfs f hf
        have := hb r hr
        omega
      refine ⟨_, hF.cell, SlR.ln hsf ⟨fun t w' => ∃ (j : Nat) (S' : List Nat), t = j ∧ j ≤ fs.length ∧ MapF c w' M S' ∧ S'.Nodup ∧ (∀ r, r ∈ S' ↔ r ∈ S ∨ r ∈ fs.take j) ∧ Fr (fun i => i = M) w28 w', fun t _ => fs.length - t.toNat, ⟨0, S, rfl, by omega, hm28, hSn, fun r => by simp, Fr.refl _ _⟩, ?_⟩⟩
      rintro - t w48 ⟨j, S', rfl, hj, hm48, hSn', hS', f48⟩
      have ho48 := Own.fr ho f48 fun i hi e => by have := (Own.lt ho hi).1; omega
      have hsf48 : SlR (kL3 c) w48 fv fs := Own.slC ho48
      have z48 := f48.size
      refine condD (fun hlt2 => ?_) fun hge2 => ?_
      · have hjl : j < fs.length := by omega
        refine SlR.rd (k := 3) hsf48 (fun _ => rfl) rfl hjl fun w53 hw53 => ?_
        refine RecV.init (cs := kL3 c fs[j]) hw53 rfl (kL3_one c _) fun w54 g54 z54 h54 => ?_
        have bx54 : Box w54 OV (.map (some M)) := (bx28.fr f48 (by omega)).grow g54
        obtain ⟨w58, hru, hm58, f58⟩ := (hm48.grow g54).put (hF8 _ (List.getElem_mem hjl))
        refine ⟨_, bx54.cell, kL3 c fs[j], rfl, h54.all, w58, hru, by unfold inR; omega, ⟨j + 1, _, by omega, by omega, hm58, addS_nodup hSn' _, fun r => ?_, (f48.trans (Fr.of_grow g54)).trans f58⟩, by first | omega | (dsimp only; omega)⟩
        have := mem_addS (S := S') (k := fs[j]) (b := r)
        unfold addS at this
        rw [this, hS', List.take_succ_eq_append_getElem hjl, List.mem_append, List.mem_singleton, or_assoc]
      · have hjn : j = fs.length := by omega
        subst hjn
        rw [List.take_length] at hS'
        have hF48 : Box w48 F fv := hF.fr f48 (by omega)
        have f548 : Fr (fun i => i = IT ∨ i = M) w5 w48 := by
          have h1 : Fr (fun i => (i = IT ∨ i = M) ∨ (i = F ∨ w20.heap.size ≤ i)) w5 w48 := (((f19.mono fun i _ e => .inl e).trans (Fr.of_grow g20)).trans (f28.mono fun i _ e => .inr e)).trans (f48.mono fun i _ e => .inl (.inr e))
          exact h1.mono fun i hi e => e.elim id fun e => by omega
        refine ⟨_, hF48.cell, SlR.ln hsf48 ⟨⟨S', hm48, hSn', fun r hr => (hS' r).2 (.inl (hbase r hr)), fun T h1 h2 r hr => ?_, fun hno => ?_, f548⟩, ?_⟩⟩
        · rcases (hS' r).1 hr with h | h
          · exact hleast T h1 h2 r h
          · obtain ⟨-, q, hq, e, hbs⟩ := hfs r h
            rw [← e]
            exact h2 q hq fun b hb' => hleast T h1 h2 b (hbs b hb')
        · have : fs = [] := List.length_eq_zero_iff.1 (by
            have := of_decide_eq_false hno
            omega)
          subst this
          intro q hq hbs
          have hS2 : ∀ r, r ∈ S' ↔ r ∈ S := fun r => by rw [hS']; simp
          exact (hS2 _).2 ((hdone q hq fun b hb' => (hS2 b).1 (hbs b hb')).elim id fun h => by cases h)
        · dsimp only
          rw [if_pos rfl, hm48.size, hm.size]
          have hl8 := len8 hSn' hm48.r8
          by_cases h0 : 0 < fs.length
          · have hd : decide ((0 : Int) < (fs.length : Int)) = true := decide_eq_true (by omega)
            rw [hd, if_pos rfl]
            have hf0 := hfs _ (List.getElem_mem h0)
            have := sub_len (l := fs[0] :: S) (l' := S') (List.nodup_cons.2 ⟨hf0.1, hSn⟩) fun x hx => by
              rcases List.mem_cons.1 hx with rfl | hx
              · exact (hS' _).2 (.inr (List.getElem_mem h0))
              · exact (hS' _).2 (.inl hx)
            rw [List.length_cons] at this
            omega
          · have hd : decide ((0 : Int) < (fs.length : Int)) = false := decide_eq_false (by omega)
            rw [hd, if_neg (by decide)]
            omega
  · refine .inr ⟨_, _, _, hrun, _, _, _, hent, fun w67 hw67 => ?_⟩
    have hln' := hperm.nodup_iff.1 hln
    have hpS : p ∈ S0 := hls p (hperm.mem_iff.2 (List.mem_cons_self ..))
    have hp8 : p < 8 := hS.r8 p hpS
    refine RecV.init (cs := kL3 c p) hw67 rfl (kL3_one c p) fun w68 g68 z68 h68 => ?_
    have f1018 : Fr (fun i => i = IT ∨ i = M) w5 w18 := f10.trans (f18.mono fun i _ e => .inl e)
    have f568 := f1018.trans (Fr.of_grow g68)
    have bx68 : Box w68 OV (.map (some M)) := bx5.fr f568 (by omega)
    have hm68 : MapF c w68 M S := (hm.fr f18 (by omega)).grow g68
    obtain ⟨w72, hru, hm72, f72⟩ := hm68.put hp8
    refine ⟨_, bx68.cell, kL3 c p, rfl, h68.all, w72, hru, ⟨left', addS S p, (hI18.grow g68).fr f72 (by omega) (by omega), hm72, addS_nodup hSn _, fun r => ?_, (List.nodup_cons.1 hln').2, fun r hr => hls r (hperm.mem_iff.2 (List.mem_cons_of_mem _ hr)), f568.trans (f72.mono fun i _ e => .inr e)⟩, ?_⟩
    · rw [mem_addS, hSm, hperm.mem_iff, List.mem_cons]
      have hpn := (List.nodup_cons.1 hln').1
      constructor
      · rintro (⟨h1, h2⟩ | rfl)
        · exact ⟨h1, fun h => h2 (.inr h)⟩
        · exact ⟨hpS, hpn⟩
      · rintro ⟨h1, h2⟩
        by_cases e : r = p
        · exact .inr e
        · exact .inl ⟨h1, fun h => h.elim e h2⟩
    · dsimp only
      rw [itLeftF_eq ((hI18.grow g68).fr f72 (by omega) (by omega)), itLeftF_eq hI, hperm.length_eq, List.length_cons]
      omega
end Go.Proofs.Ytleiddajojgmmaa
