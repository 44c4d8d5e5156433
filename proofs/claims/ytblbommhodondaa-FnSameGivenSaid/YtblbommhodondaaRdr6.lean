/- Lists of terms that are drawn: l4Terms, DrawTermParts. -/
import Derived.Test.YtblbommhodondaaRdr5
namespace Go.Proofs.Ytblbommhodondaa
open Go Go.RowKit
set_option linter.unusedVariables false
set_option linter.unusedSimpArgs false

theorem Tm.zero_rd (w : World) : RdVs w (Tm.mk ⟨#[]⟩ []).cd [.string ⟨#[]⟩, .slice none 0 0] [] := Tm.rdvs (t := .mk ⟨#[]⟩ []) (by decide) (by simp only [Tm.kids, List.map_nil, Rd]; exact ⟨none, 0, rfl, by simp, by simp [maxLen], by simp⟩)
end Go.Proofs.Ytblbommhodondaa
