/-
  LinearTerm: for every form of at most 1048576 parts (words, texts and places counted), the sum of the term of its sum is the sum. Condition: the argument's bulk, as the card says.
-/
import Derived.Test.YtmompmackgknbaaDoorB2
import Derived.Test.YtmompmackgknbaaDoorF14
set_option linter.unusedVariables false
namespace Go.Proofs.YtmompmackgknbaaDoor.linearTerm
open Go Go.Ab
theorem proved : Rows.LinearTermUptoCardSaid := card_of linTerm_call
#print axioms proved
end Go.Proofs.YtmompmackgknbaaDoor.linearTerm
