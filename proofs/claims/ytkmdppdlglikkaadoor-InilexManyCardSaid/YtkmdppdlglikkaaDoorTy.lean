/-
  Structures, as Lean's and as types of the machine's. Printed by mkwalk.py.
-/
import Derived.Test.YtkmdppdlglikkaaDoorSmP
set_option linter.unusedVariables false
set_option maxRecDepth 100000
namespace Go.Proofs.YtkmdppdlglikkaaDoor.Am

structure S_inilex_Item where
  Section : Bool
  Name : Str
  Value : Str
  Line : Int
  deriving DecidableEq
def T_inilex_Item : T := T.iso (T.prod T.b (T.prod T.str (T.prod T.str (T.int .i64)))) S_inilex_Item (fun x => (x.Section, x.Name, x.Value, x.Line)) (fun p => ⟨p.1, p.2.1, p.2.2.1, p.2.2.2⟩) (fun _ => rfl)
def F_inilex_Item_Section : Fld T_inilex_Item T.b 0 := Fld.iso (Fld.left (Fld.id _))
def F_inilex_Item_Name : Fld T_inilex_Item T.str 1 := Fld.iso (Fld.right (Fld.left (Fld.id _)))
def F_inilex_Item_Value : Fld T_inilex_Item T.str 2 := Fld.iso (Fld.right (Fld.right (Fld.left (Fld.id _))))
def F_inilex_Item_Line : Fld T_inilex_Item (T.int .i64) 3 := Fld.iso (Fld.right (Fld.right (Fld.right (Fld.id _))))
def C_inilex_Item := CmpC.iso (g := fun p => ⟨p.1, p.2.1, p.2.2.1, p.2.2.2⟩) (hfg := fun _ => rfl) (CmpC.prod CmpC.b (CmpC.prod CmpC.str (CmpC.prod CmpC.str (CmpC.int .i64)))) (fun (x y : S_inilex_Item) => inferInstance) (f := fun x => (x.Section, x.Name, x.Value, x.Line)) (by rintro ⟨⟩ ⟨⟩ h; cases h; rfl)
structure S_unicode_utf8_acceptRange where
  lo_ : UInt8
  hi_ : UInt8
  deriving DecidableEq
def T_unicode_utf8_acceptRange : T := T.iso (T.prod T.u8 T.u8) S_unicode_utf8_acceptRange (fun x => (x.lo_, x.hi_)) (fun p => ⟨p.1, p.2⟩) (fun _ => rfl)
def F_unicode_utf8_acceptRange_lo_ : Fld T_unicode_utf8_acceptRange T.u8 0 := Fld.iso (Fld.left (Fld.id _))
def F_unicode_utf8_acceptRange_hi_ : Fld T_unicode_utf8_acceptRange T.u8 1 := Fld.iso (Fld.right (Fld.id _))
def C_unicode_utf8_acceptRange := CmpC.iso (g := fun p => ⟨p.1, p.2⟩) (hfg := fun _ => rfl) (CmpC.prod CmpC.u8 CmpC.u8) (fun (x y : S_unicode_utf8_acceptRange) => inferInstance) (f := fun x => (x.lo_, x.hi_)) (by rintro ⟨⟩ ⟨⟩ h; cases h; rfl)
end Go.Proofs.YtkmdppdlglikkaaDoor.Am
