/- Contracts of cases.Do and PDo, whatever the arguments; lists of things to do, as they read. Conditions: the net and the case read as lists. -/
import Derived.Test.YtmnacahoamkokaaCaseG
import Derived.Test.YtmnacahoamkokaaCaseH
import Derived.Test.YtmnacahoamkokaaCaseHB
import Derived.Test.YtmnacahoamkokaaCaseHC
import Derived.Test.YtmnacahoamkokaaCaseJ
namespace Go.Proofs.Ytmnacahoamkokaa
open Go.RowKit

theorem do_calls {w : World} {P : Int} {A B D : Option Addr} {n c m d l k : Nat} {ts : List PTran} {p : PCase} (kd t : Int) (h : Trans w A n c ts) (g : Ints w B m d p.mark) (b : Ints w D l k p.busy) (hl : l ≤ 17592186044416) :
    Calls Try.prog 206 #[.agg #[.int .i64 P, .slice A n c], .agg #[.slice B m d, .slice D l k], .agg #[.int .i64 kd, .int .i64 t]] w (AnsCE (doL ⟨P, ts⟩ p kd t) w) := by
  by_cases hg : ∃ (i : Nat) (T : PTran), t = (i : Int) ∧ ts[i]? = some T ∧ caseOk ⟨P, ts⟩ p = true ∧ 1 ≤ kd ∧ kd ≤ 4 ∧ (kd = 1 ↔ T.label = 0)
  · obtain ⟨i, T, rfl, hT, hok, h1, h4, hlk⟩ := hg
    have hk : kd = 1 ∨ kd = 2 ∨ kd = 3 ∨ kd = 4 := by omega
    rcases hk with rfl | rfl | rfl | rfl
    · exact do_1 i T hT hok (hlk.1 rfl) h g b hl
    · exact do_2 i T hT hok (fun e => by have := hlk.2 e; omega) h g b hl
    · exact do_3 i T hT hok (fun e => by have := hlk.2 e; omega) h g b hl
    · exact do_4 i T hT hok (fun e => by have := hlk.2 e; omega) h g b hl
  · exact do_bad kd t h g b (fun i T ht hT hok h1 h4 hlk => hg ⟨i, T, ht, hT, hok, h1, h4, hlk⟩)
theorem refDo_calls {w : World} {P : Int} {A B D : Option Addr} {n c m d l k : Nat} {ts : List PTran} {p : PCase} (kd t : Int) (h : Trans w A n c ts) (g : Ints w B m d p.mark) (b : Ints w D l k p.busy) (hl : l ≤ 17592186044416) :
    Calls Try.prog 165 #[.agg #[.int .i64 P, .slice A n c], .agg #[.slice B m d, .slice D l k], .agg #[.int .i64 kd, .int .i64 t]] w (AnsCE (doL ⟨P, ts⟩ p kd t) w) := by
  by_cases hg : ∃ (i : Nat) (T : PTran), t = (i : Int) ∧ ts[i]? = some T ∧ caseOk ⟨P, ts⟩ p = true ∧ 1 ≤ kd ∧ kd ≤ 4 ∧ (kd = 1 ↔ T.label = 0)
  · obtain ⟨i, T, rfl, hT, hok, h1, h4, hlk⟩ := hg
    exact refDo_good kd i T hT hok h1 h4 hlk h g b hl
  · exact refDo_bad kd t h g b (fun i T ht hT hok h1 h4 hlk => hg ⟨i, T, ht, hT, hok, h1, h4, hlk⟩)
end Go.Proofs.Ytmnacahoamkokaa
