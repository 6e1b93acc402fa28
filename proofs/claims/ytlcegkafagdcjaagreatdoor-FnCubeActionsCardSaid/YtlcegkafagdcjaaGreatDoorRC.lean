/- Plain facts: the forms of a cube; the composite of all three is the identity. No program in sight. -/
import Derived.Test.YtlcegkafagdcjaaGreatDoorMM
namespace Go.Proofs.YtlcegkafagdcjaaGreatDoor

/-- Eight entries. -/
structure Cu where
  a : Int
  b : Int
  c : Int
  d : Int
  e : Int
  f : Int
  g : Int
  h : Int
def cuF (k : Cu) : Fm := ⟨k.b * k.c - k.a * k.d, k.a * k.h + k.d * k.e - k.b * k.g - k.c * k.f, k.f * k.g - k.e * k.h⟩
def cuT (k : Cu) : Cu := ⟨k.a, k.c, k.e, k.g, k.b, k.d, k.f, k.h⟩
def cuF2 (k : Cu) : Fm := cuF (cuT k)
def cuF3 (k : Cu) : Fm := cuF (cuT (cuT k))
end Go.Proofs.YtlcegkafagdcjaaGreatDoor
