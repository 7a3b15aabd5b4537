/-
  Structures, as Lean's and as types of the machine's. Printed by mkwalk.py.
-/
import Derived.Test.YtopgecohakediaaDoorSmW
set_option linter.unusedVariables false
set_option maxRecDepth 100000
namespace Go.Proofs.YtopgecohakediaaDoor.Am

structure S_pairline_Pair where
  Key : Str
  Value : Str
  deriving DecidableEq
def T_pairline_Pair : T := T.iso (T.prod T.str T.str) S_pairline_Pair (fun x => (x.Key, x.Value)) (fun p => ⟨p.1, p.2⟩) (fun _ => rfl)
def F_pairline_Pair_Key : Fld T_pairline_Pair T.str 0 := Fld.iso (Fld.left (Fld.id _))
def F_pairline_Pair_Value : Fld T_pairline_Pair T.str 1 := Fld.iso (Fld.right (Fld.id _))
def C_pairline_Pair := CmpC.iso (g := fun p => ⟨p.1, p.2⟩) (hfg := fun _ => rfl) (CmpC.prod CmpC.str CmpC.str) (fun (x y : S_pairline_Pair) => inferInstance) (f := fun x => (x.Key, x.Value)) (by rintro ⟨⟩ ⟨⟩ h; cases h; rfl)
structure S_api_Addr where
  V : Int
  B : (Ar UInt8 16)
  deriving DecidableEq
def T_api_Addr : T := T.iso (T.prod (T.int .i64) (T.arr 16 T.u8)) S_api_Addr (fun x => (x.V, x.B)) (fun p => ⟨p.1, p.2⟩) (fun _ => rfl)
def F_api_Addr_V : Fld T_api_Addr (T.int .i64) 0 := Fld.iso (Fld.left (Fld.id _))
def F_api_Addr_B : Fld T_api_Addr (T.arr 16 T.u8) 1 := Fld.iso (Fld.right (Fld.id _))
def C_api_Addr := CmpC.iso (g := fun p => ⟨p.1, p.2⟩) (hfg := fun _ => rfl) (CmpC.prod (CmpC.int .i64) (CmpC.arr 16 CmpC.u8)) (fun (x y : S_api_Addr) => inferInstance) (f := fun x => (x.V, x.B)) (by rintro ⟨⟩ ⟨⟩ h; cases h; rfl)
structure S_api_Endpoint where
  A : S_api_Addr
  Port : Int
  deriving DecidableEq
def T_api_Endpoint : T := T.iso (T.prod T_api_Addr (T.int .i64)) S_api_Endpoint (fun x => (x.A, x.Port)) (fun p => ⟨p.1, p.2⟩) (fun _ => rfl)
def F_api_Endpoint_A : Fld T_api_Endpoint T_api_Addr 0 := Fld.iso (Fld.left (Fld.id _))
def F_api_Endpoint_Port : Fld T_api_Endpoint (T.int .i64) 17 := Fld.iso (Fld.right (Fld.id _))
def C_api_Endpoint := CmpC.iso (g := fun p => ⟨p.1, p.2⟩) (hfg := fun _ => rfl) (CmpC.prod C_api_Addr (CmpC.int .i64)) (fun (x y : S_api_Endpoint) => inferInstance) (f := fun x => (x.A, x.Port)) (by rintro ⟨⟩ ⟨⟩ h; cases h; rfl)
structure S_api_Prefix where
  A : S_api_Addr
  Bits : Int
  deriving DecidableEq
def T_api_Prefix : T := T.iso (T.prod T_api_Addr (T.int .i64)) S_api_Prefix (fun x => (x.A, x.Bits)) (fun p => ⟨p.1, p.2⟩) (fun _ => rfl)
def F_api_Prefix_A : Fld T_api_Prefix T_api_Addr 0 := Fld.iso (Fld.left (Fld.id _))
def F_api_Prefix_Bits : Fld T_api_Prefix (T.int .i64) 17 := Fld.iso (Fld.right (Fld.id _))
def C_api_Prefix := CmpC.iso (g := fun p => ⟨p.1, p.2⟩) (hfg := fun _ => rfl) (CmpC.prod C_api_Addr (CmpC.int .i64)) (fun (x y : S_api_Prefix) => inferInstance) (f := fun x => (x.A, x.Bits)) (by rintro ⟨⟩ ⟨⟩ h; cases h; rfl)
structure S_api_IniPeer where
  Key : (Ar UInt8 32)
  Psk : (Ar UInt8 32)
  End : S_api_Endpoint
  Keep : Int
  Allowed : (GS S_api_Prefix)
  deriving DecidableEq
def T_api_IniPeer : T := T.iso (T.prod (T.arr 32 T.u8) (T.prod (T.arr 32 T.u8) (T.prod T_api_Endpoint (T.prod (T.int .i64) (T.sl T_api_Prefix))))) S_api_IniPeer (fun x => (x.Key, x.Psk, x.End, x.Keep, x.Allowed)) (fun p => ⟨p.1, p.2.1, p.2.2.1, p.2.2.2.1, p.2.2.2.2⟩) (fun _ => rfl)
def F_api_IniPeer_Key : Fld T_api_IniPeer (T.arr 32 T.u8) 0 := Fld.iso (Fld.left (Fld.id _))
def F_api_IniPeer_Psk : Fld T_api_IniPeer (T.arr 32 T.u8) 32 := Fld.iso (Fld.right (Fld.left (Fld.id _)))
def F_api_IniPeer_End : Fld T_api_IniPeer T_api_Endpoint 64 := Fld.iso (Fld.right (Fld.right (Fld.left (Fld.id _))))
def F_api_IniPeer_Keep : Fld T_api_IniPeer (T.int .i64) 82 := Fld.iso (Fld.right (Fld.right (Fld.right (Fld.left (Fld.id _)))))
def F_api_IniPeer_Allowed : Fld T_api_IniPeer (T.sl T_api_Prefix) 83 := Fld.iso (Fld.right (Fld.right (Fld.right (Fld.right (Fld.id _)))))
structure S_api_Ini where
  Private : (Ar UInt8 32)
  Port : Int
  Mark : UInt32
  Peers : (GS S_api_IniPeer)
  deriving DecidableEq
def T_api_Ini : T := T.iso (T.prod (T.arr 32 T.u8) (T.prod (T.int .i64) (T.prod T.u32 (T.sl T_api_IniPeer)))) S_api_Ini (fun x => (x.Private, x.Port, x.Mark, x.Peers)) (fun p => ⟨p.1, p.2.1, p.2.2.1, p.2.2.2⟩) (fun _ => rfl)
def F_api_Ini_Private : Fld T_api_Ini (T.arr 32 T.u8) 0 := Fld.iso (Fld.left (Fld.id _))
def F_api_Ini_Port : Fld T_api_Ini (T.int .i64) 32 := Fld.iso (Fld.right (Fld.left (Fld.id _)))
def F_api_Ini_Mark : Fld T_api_Ini T.u32 33 := Fld.iso (Fld.right (Fld.right (Fld.left (Fld.id _))))
def F_api_Ini_Peers : Fld T_api_Ini (T.sl T_api_IniPeer) 34 := Fld.iso (Fld.right (Fld.right (Fld.right (Fld.id _))))
structure S_r36_Pair where
  Key : Str
  Value : Str
  deriving DecidableEq
def T_r36_Pair : T := T.iso (T.prod T.str T.str) S_r36_Pair (fun x => (x.Key, x.Value)) (fun p => ⟨p.1, p.2⟩) (fun _ => rfl)
def F_r36_Pair_Key : Fld T_r36_Pair T.str 0 := Fld.iso (Fld.left (Fld.id _))
def F_r36_Pair_Value : Fld T_r36_Pair T.str 1 := Fld.iso (Fld.right (Fld.id _))
def C_r36_Pair := CmpC.iso (g := fun p => ⟨p.1, p.2⟩) (hfg := fun _ => rfl) (CmpC.prod CmpC.str CmpC.str) (fun (x y : S_r36_Pair) => inferInstance) (f := fun x => (x.Key, x.Value)) (by rintro ⟨⟩ ⟨⟩ h; cases h; rfl)
structure S_runtime_boundsError where
  x_ : Int
  y_ : Int
  signed_ : Bool
  code_ : UInt8
  deriving DecidableEq
def T_runtime_boundsError : T := T.iso (T.prod (T.int .i64) (T.prod (T.int .i64) (T.prod T.b T.u8))) S_runtime_boundsError (fun x => (x.x_, x.y_, x.signed_, x.code_)) (fun p => ⟨p.1, p.2.1, p.2.2.1, p.2.2.2⟩) (fun _ => rfl)
def F_runtime_boundsError_x_ : Fld T_runtime_boundsError (T.int .i64) 0 := Fld.iso (Fld.left (Fld.id _))
def F_runtime_boundsError_y_ : Fld T_runtime_boundsError (T.int .i64) 1 := Fld.iso (Fld.right (Fld.left (Fld.id _)))
def F_runtime_boundsError_signed_ : Fld T_runtime_boundsError T.b 2 := Fld.iso (Fld.right (Fld.right (Fld.left (Fld.id _))))
def F_runtime_boundsError_code_ : Fld T_runtime_boundsError T.u8 3 := Fld.iso (Fld.right (Fld.right (Fld.right (Fld.id _))))
def C_runtime_boundsError := CmpC.iso (g := fun p => ⟨p.1, p.2.1, p.2.2.1, p.2.2.2⟩) (hfg := fun _ => rfl) (CmpC.prod (CmpC.int .i64) (CmpC.prod (CmpC.int .i64) (CmpC.prod CmpC.b CmpC.u8))) (fun (x y : S_runtime_boundsError) => inferInstance) (f := fun x => (x.x_, x.y_, x.signed_, x.code_)) (by rintro ⟨⟩ ⟨⟩ h; cases h; rfl)
structure S_runtime_errorAddressString where
  msg_ : Str
  addr_ : UInt64
  deriving DecidableEq
def T_runtime_errorAddressString : T := T.iso (T.prod T.str T.u64) S_runtime_errorAddressString (fun x => (x.msg_, x.addr_)) (fun p => ⟨p.1, p.2⟩) (fun _ => rfl)
def F_runtime_errorAddressString_msg_ : Fld T_runtime_errorAddressString T.str 0 := Fld.iso (Fld.left (Fld.id _))
def F_runtime_errorAddressString_addr_ : Fld T_runtime_errorAddressString T.u64 1 := Fld.iso (Fld.right (Fld.id _))
def C_runtime_errorAddressString := CmpC.iso (g := fun p => ⟨p.1, p.2⟩) (hfg := fun _ => rfl) (CmpC.prod CmpC.str CmpC.u64) (fun (x y : S_runtime_errorAddressString) => inferInstance) (f := fun x => (x.msg_, x.addr_)) (by rintro ⟨⟩ ⟨⟩ h; cases h; rfl)
end Go.Proofs.YtopgecohakediaaDoor.Am
