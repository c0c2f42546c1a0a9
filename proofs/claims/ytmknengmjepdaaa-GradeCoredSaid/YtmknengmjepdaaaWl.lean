/- A pattern without one rule. -/
import Derived.Test.YtmknengmjepdaaaPx
namespace Go.Proofs.Ytmknengmjepdaaa
open Go.RowKit

/-- A pattern without one rule. -/
def lessP (p : Pat) (k : Nat) : Pat := ⟨p.n, p.rules.eraseIdx k⟩

end Go.Proofs.Ytmknengmjepdaaa
