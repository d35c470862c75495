/- RowText keeps its contract. -/
import Derived.Test.YtdahomfmcijklaaDoorF5
import Derived.Test.YtdahomfmcijklaaDoorHG
namespace Go.Proofs.YtdahomfmcijklaaDoor.E
open Go Go.RowKit Go.Lib Go.Extern
variable {O : World}
theorem oki_RowText [GlobOk O] : SpecOk Tryd.prog X0 O 81 spi_RowText := by
  intro x y w S args fs hy hargs hnd hS hO
  obtain ⟨zz, ⟨⟩⟩ := x
  have ⟨r, e1⟩ : ∃ q : List Int, q = zz := ⟨zz, rfl⟩
  subst e1
  obtain ⟨vz, f1, vs, fs1, rfl, rfl, ⟨_, rfl, hz⟩, rfl, rfl⟩ := hargs
  have hz' : Rd X0 w S mS yRow r [vz] [] := hz
  have hy : fi_RowText r = some y := hy
  unfold fi_RowText at hy
  cases hb : decide (r.length ≤ 1000000000) && r.all (fun n => decide (-9223372036854775808 ≤ n) && decide (n ≤ 9223372036854775807)) with
  | false => rw [hb] at hy; cases hy
  | true =>
  rw [hb] at hy
  cases hy
  simp only [Bool.and_eq_true, decide_eq_true_eq, List.all_eq_true] at hb
  obtain ⟨ad, c, rfl, hc⟩ := row_cells hz'
  have hcl := rowText_calls r ad c w hb.1 (fun j hj => hb.2 _ (by simp [List.getD_eq_getElem?_getD, hj])) hc (GlobOk.here hO)
  refine Call1.of_calls (c := (Tryd.f81.body).getD .skip) Tryd.func81 (by kernel_rfl) (by kernel_rfl) (hcl.mono fun e w' ⟨he, hk⟩ => ⟨_, he, S, Post.kept hk hS ?_⟩)
  exact ⟨[⟨.str, _⟩], [], [_], [[]], [], rfl, rfl, ⟨_, _, _, _, _, _, rfl, rfl, rfl, .str _ _, rfl, rfl, rfl⟩, ⟨rfl, rfl⟩, by simp, by simp⟩
end Go.Proofs.YtdahomfmcijklaaDoor.E
