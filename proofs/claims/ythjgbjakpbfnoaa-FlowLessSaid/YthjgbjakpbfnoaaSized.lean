/- The bound on sizes under which the walks over evidence are made. -/
import Derived.Test.YthjgbjakpbfnoaaPlain14
namespace Go.Proofs.Ythjgbjakpbfnoaa
/-- what the walks ask of sizes (kerbsideref14.Few gives more) -/
structure Ev.Sized (e : Ev) : Prop where
  s1 : e.places.length ≤ 1000000
  s2 : e.moves.length ≤ 1000000
  s3 : e.certs.length ≤ 1000000
  s4 : e.recalls.length ≤ 1000000
  s5 : e.purities.length ≤ 1000000
end Go.Proofs.Ythjgbjakpbfnoaa
