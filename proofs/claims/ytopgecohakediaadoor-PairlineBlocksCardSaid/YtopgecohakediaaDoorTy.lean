/-
  Structures, as Lean's and as types of the machine's. Printed by mkwalk.py.
-/
import Derived.Test.YtopgecohakediaaDoorSmR
set_option linter.unusedVariables false
set_option maxRecDepth 100000
namespace Go.Proofs.YtopgecohakediaaDoor.Am

structure S_unicode_utf8_acceptRange where
  lo_ : UInt8
  hi_ : UInt8
  deriving DecidableEq
def T_unicode_utf8_acceptRange : T := T.iso (T.prod T.u8 T.u8) S_unicode_utf8_acceptRange (fun x => (x.lo_, x.hi_)) (fun p => ⟨p.1, p.2⟩) (fun _ => rfl)
def F_unicode_utf8_acceptRange_lo_ : Fld T_unicode_utf8_acceptRange T.u8 0 := Fld.iso (Fld.left (Fld.id _))
def F_unicode_utf8_acceptRange_hi_ : Fld T_unicode_utf8_acceptRange T.u8 1 := Fld.iso (Fld.right (Fld.id _))
def C_unicode_utf8_acceptRange := CmpC.iso (g := fun p => ⟨p.1, p.2⟩) (hfg := fun _ => rfl) (CmpC.prod CmpC.u8 CmpC.u8) (fun (x y : S_unicode_utf8_acceptRange) => inferInstance) (f := fun x => (x.lo_, x.hi_)) (by rintro ⟨⟩ ⟨⟩ h; cases h; rfl)
structure S_pairline_Pair where
  Key : Str
  Value : Str
  deriving DecidableEq
def T_pairline_Pair : T := T.iso (T.prod T.str T.str) S_pairline_Pair (fun x => (x.Key, x.Value)) (fun p => ⟨p.1, p.2⟩) (fun _ => rfl)
def F_pairline_Pair_Key : Fld T_pairline_Pair T.str 0 := Fld.iso (Fld.left (Fld.id _))
def F_pairline_Pair_Value : Fld T_pairline_Pair T.str 1 := Fld.iso (Fld.right (Fld.id _))
def C_pairline_Pair := CmpC.iso (g := fun p => ⟨p.1, p.2⟩) (hfg := fun _ => rfl) (CmpC.prod CmpC.str CmpC.str) (fun (x y : S_pairline_Pair) => inferInstance) (f := fun x => (x.Key, x.Value)) (by rintro ⟨⟩ ⟨⟩ h; cases h; rfl)
structure S_r36_Pair where
  Key : Str
  Value : Str
  deriving DecidableEq
def T_r36_Pair : T := T.iso (T.prod T.str T.str) S_r36_Pair (fun x => (x.Key, x.Value)) (fun p => ⟨p.1, p.2⟩) (fun _ => rfl)
def F_r36_Pair_Key : Fld T_r36_Pair T.str 0 := Fld.iso (Fld.left (Fld.id _))
def F_r36_Pair_Value : Fld T_r36_Pair T.str 1 := Fld.iso (Fld.right (Fld.id _))
def C_r36_Pair := CmpC.iso (g := fun p => ⟨p.1, p.2⟩) (hfg := fun _ => rfl) (CmpC.prod CmpC.str CmpC.str) (fun (x y : S_r36_Pair) => inferInstance) (f := fun x => (x.Key, x.Value)) (by rintro ⟨⟩ ⟨⟩ h; cases h; rfl)
end Go.Proofs.YtopgecohakediaaDoor.Am
