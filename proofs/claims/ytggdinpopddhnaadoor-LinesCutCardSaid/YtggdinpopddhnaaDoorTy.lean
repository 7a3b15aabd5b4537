/-
  Structures, as Lean's and as types of the machine's. Printed by mkwalk.py.
-/
import Derived.Test.YtggdinpopddhnaaDoorSmK
set_option linter.unusedVariables false
set_option maxRecDepth 100000
namespace Go.Proofs.YtggdinpopddhnaaDoor.Am

structure S_unicode_utf8_acceptRange where
  lo_ : UInt8
  hi_ : UInt8
  deriving DecidableEq
def T_unicode_utf8_acceptRange : T := T.iso (T.prod T.u8 T.u8) S_unicode_utf8_acceptRange (fun x => (x.lo_, x.hi_)) (fun p => ⟨p.1, p.2⟩) (fun _ => rfl)
def F_unicode_utf8_acceptRange_lo_ : Fld T_unicode_utf8_acceptRange T.u8 0 := Fld.iso (Fld.left (Fld.id _))
def F_unicode_utf8_acceptRange_hi_ : Fld T_unicode_utf8_acceptRange T.u8 1 := Fld.iso (Fld.right (Fld.id _))
def C_unicode_utf8_acceptRange := CmpC.iso (g := fun p => ⟨p.1, p.2⟩) (hfg := fun _ => rfl) (CmpC.prod CmpC.u8 CmpC.u8) (fun (x y : S_unicode_utf8_acceptRange) => inferInstance) (f := fun x => (x.lo_, x.hi_)) (by rintro ⟨⟩ ⟨⟩ h; cases h; rfl)
end Go.Proofs.YtggdinpopddhnaaDoor.Am
