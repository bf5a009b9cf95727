/- Contracts: Rest and JoinTree. No condition. -/
import Derived.Test.YtmjpnfapjcfejaaTg
namespace Go.Proofs.Ytmjpnfapjcfejaa
open Go Go.RowKit VC
set_option linter.unusedSimpArgs false
set_option linter.unusedVariables false

def restV (l : Nat) : Nat := if pc l = 1 then 0 else l
theorem rest_c {w : World} {hv bv : Value} {h : List Int} {b : List Atm} (sh : SlI w hv h) (sb : SlA w bv b) :
    Calls Try.prog 39 #[.agg #[hv, bv]] w fun e w' => (okQ h b = false ∧ e = .returned (.tuple #[.int .i64 0, .int .i64 2]) ∨ okQ h b = true ∧ ∃ l2 p2, e = .returned (.tuple #[.int .i64 (restV l2 : Nat), .int .i64 0]) ∧ EarsR b.length (2 ^ b.length - 1) (varsOf b) (List.replicate b.length (-1)) l2 p2 ∧ l2 < 2 ^ b.length) ∧ Grow w w' := by
  refine f39_calls _ ?_
  refine ⟨_, rfl, fun w1 hw1 => ?_⟩
  have g1 := alloc_grow hw1
  have p0 := boxc hw1 0 hv rfl
  have p1 := boxc hw1 1 bv rfl
  refine ⟨[_, _], rfl, two p0 p1, (valid_c (sh.grow g1) (sb.gr g1)).mono ?_⟩
  rintro e w4 ⟨rfl, g4⟩
  have g04 := g1.trans g4
  refine ⟨_, rfl, condP_i (fun hn => ⟨.inl ⟨by simpa using hn, rfl⟩, g04⟩) fun hk => ?_⟩
  have ok : okQ h b = true := by simpa using hk
  have hbl := okQ_len ok
  have oa : ∀ a ∈ b, okA a = true := fun a ha => by
    simp only [okQ, Bool.and_eq_true, List.all_eq_true] at ok
    exact ok.1.2 a ha
  refine ⟨[_, _], rfl, two (g4.cell p0) (g4.cell p1), (ears_c (sb.gr g04) oa hbl.1 hbl.2.1).mono ?_⟩
  rintro e w8 ⟨pv, l2, p2, rfl, hE, hl, hp, sp, g8⟩
  exact ⟨_, _, rfl, .inr ⟨ok, l2, p2, rfl, hE, hl⟩, g04.trans g8⟩
end Go.Proofs.Ytmjpnfapjcfejaa
