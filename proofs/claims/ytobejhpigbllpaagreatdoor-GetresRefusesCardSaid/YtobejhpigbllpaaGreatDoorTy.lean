/-
  Structures, as Lean's and as types of the machine's. Printed by mkwalk.py.
-/
import Derived.Test.YtobejhpigbllpaaGreatDoorSmY
set_option linter.unusedVariables false
set_option maxRecDepth 100000
namespace Go.Proofs.YtobejhpigbllpaaGreatDoor.Am

structure S_api_Addr where
  V : Int
  B : (Ar UInt8 16)
  deriving DecidableEq
def T_api_Addr : T := T.iso (T.prod (T.int .i64) (T.arr 16 T.u8)) S_api_Addr (fun x => (x.V, x.B)) (fun p => ⟨p.1, p.2⟩) (fun _ => rfl)
def F_api_Addr_V : Fld T_api_Addr (T.int .i64) 0 := Fld.iso (Fld.left (Fld.id _))
def F_api_Addr_B : Fld T_api_Addr (T.arr 16 T.u8) 1 := Fld.iso (Fld.right (Fld.id _))
def C_api_Addr := CmpC.iso (g := fun p => ⟨p.1, p.2⟩) (hfg := fun _ => rfl) (CmpC.prod (CmpC.int .i64) (CmpC.arr 16 CmpC.u8)) (fun (x y : S_api_Addr) => inferInstance) (f := fun x => (x.V, x.B)) (by rintro ⟨⟩ ⟨⟩ h; cases h; rfl)
structure S_api_Endpoint where
  A : S_api_Addr
  Port : Int
  deriving DecidableEq
def T_api_Endpoint : T := T.iso (T.prod T_api_Addr (T.int .i64)) S_api_Endpoint (fun x => (x.A, x.Port)) (fun p => ⟨p.1, p.2⟩) (fun _ => rfl)
def F_api_Endpoint_A : Fld T_api_Endpoint T_api_Addr 0 := Fld.iso (Fld.left (Fld.id _))
def F_api_Endpoint_Port : Fld T_api_Endpoint (T.int .i64) 17 := Fld.iso (Fld.right (Fld.id _))
def C_api_Endpoint := CmpC.iso (g := fun p => ⟨p.1, p.2⟩) (hfg := fun _ => rfl) (CmpC.prod C_api_Addr (CmpC.int .i64)) (fun (x y : S_api_Endpoint) => inferInstance) (f := fun x => (x.A, x.Port)) (by rintro ⟨⟩ ⟨⟩ h; cases h; rfl)
structure S_api_Event where
  Kind : Int
  Bytes : (GS UInt8)
  To : S_api_Endpoint
  Key : (Ar UInt8 32)
  Why : Int
  deriving DecidableEq
def T_api_Event : T := T.iso (T.prod (T.int .i64) (T.prod (T.sl T.u8) (T.prod T_api_Endpoint (T.prod (T.arr 32 T.u8) (T.int .i64))))) S_api_Event (fun x => (x.Kind, x.Bytes, x.To, x.Key, x.Why)) (fun p => ⟨p.1, p.2.1, p.2.2.1, p.2.2.2.1, p.2.2.2.2⟩) (fun _ => rfl)
def F_api_Event_Kind : Fld T_api_Event (T.int .i64) 0 := Fld.iso (Fld.left (Fld.id _))
def F_api_Event_Bytes : Fld T_api_Event (T.sl T.u8) 1 := Fld.iso (Fld.right (Fld.left (Fld.id _)))
def F_api_Event_To : Fld T_api_Event T_api_Endpoint 2 := Fld.iso (Fld.right (Fld.right (Fld.left (Fld.id _))))
def F_api_Event_Key : Fld T_api_Event (T.arr 32 T.u8) 20 := Fld.iso (Fld.right (Fld.right (Fld.right (Fld.left (Fld.id _)))))
def F_api_Event_Why : Fld T_api_Event (T.int .i64) 52 := Fld.iso (Fld.right (Fld.right (Fld.right (Fld.right (Fld.id _)))))
structure S_api_Prefix where
  A : S_api_Addr
  Bits : Int
  deriving DecidableEq
def T_api_Prefix : T := T.iso (T.prod T_api_Addr (T.int .i64)) S_api_Prefix (fun x => (x.A, x.Bits)) (fun p => ⟨p.1, p.2⟩) (fun _ => rfl)
def F_api_Prefix_A : Fld T_api_Prefix T_api_Addr 0 := Fld.iso (Fld.left (Fld.id _))
def F_api_Prefix_Bits : Fld T_api_Prefix (T.int .i64) 17 := Fld.iso (Fld.right (Fld.id _))
def C_api_Prefix := CmpC.iso (g := fun p => ⟨p.1, p.2⟩) (hfg := fun _ => rfl) (CmpC.prod C_api_Addr (CmpC.int .i64)) (fun (x y : S_api_Prefix) => inferInstance) (f := fun x => (x.A, x.Bits)) (by rintro ⟨⟩ ⟨⟩ h; cases h; rfl)
structure S_api_Peer where
  Key : (Ar UInt8 32)
  Psk : (Ar UInt8 32)
  End : S_api_Endpoint
  Keep : Int
  Sent : UInt64
  Got : UInt64
  Allowed : (GS S_api_Prefix)
  deriving DecidableEq
def T_api_Peer : T := T.iso (T.prod (T.arr 32 T.u8) (T.prod (T.arr 32 T.u8) (T.prod T_api_Endpoint (T.prod (T.int .i64) (T.prod T.u64 (T.prod T.u64 (T.sl T_api_Prefix))))))) S_api_Peer (fun x => (x.Key, x.Psk, x.End, x.Keep, x.Sent, x.Got, x.Allowed)) (fun p => ⟨p.1, p.2.1, p.2.2.1, p.2.2.2.1, p.2.2.2.2.1, p.2.2.2.2.2.1, p.2.2.2.2.2.2⟩) (fun _ => rfl)
def F_api_Peer_Key : Fld T_api_Peer (T.arr 32 T.u8) 0 := Fld.iso (Fld.left (Fld.id _))
def F_api_Peer_Psk : Fld T_api_Peer (T.arr 32 T.u8) 32 := Fld.iso (Fld.right (Fld.left (Fld.id _)))
def F_api_Peer_End : Fld T_api_Peer T_api_Endpoint 64 := Fld.iso (Fld.right (Fld.right (Fld.left (Fld.id _))))
def F_api_Peer_Keep : Fld T_api_Peer (T.int .i64) 82 := Fld.iso (Fld.right (Fld.right (Fld.right (Fld.left (Fld.id _)))))
def F_api_Peer_Sent : Fld T_api_Peer T.u64 83 := Fld.iso (Fld.right (Fld.right (Fld.right (Fld.right (Fld.left (Fld.id _))))))
def F_api_Peer_Got : Fld T_api_Peer T.u64 84 := Fld.iso (Fld.right (Fld.right (Fld.right (Fld.right (Fld.right (Fld.left (Fld.id _)))))))
def F_api_Peer_Allowed : Fld T_api_Peer (T.sl T_api_Prefix) 85 := Fld.iso (Fld.right (Fld.right (Fld.right (Fld.right (Fld.right (Fld.right (Fld.id _)))))))
structure S_api_Conf where
  Private : (Ar UInt8 32)
  Port : Int
  Mark : UInt32
  Peers : (GS S_api_Peer)
  deriving DecidableEq
def T_api_Conf : T := T.iso (T.prod (T.arr 32 T.u8) (T.prod (T.int .i64) (T.prod T.u32 (T.sl T_api_Peer)))) S_api_Conf (fun x => (x.Private, x.Port, x.Mark, x.Peers)) (fun p => ⟨p.1, p.2.1, p.2.2.1, p.2.2.2⟩) (fun _ => rfl)
def F_api_Conf_Private : Fld T_api_Conf (T.arr 32 T.u8) 0 := Fld.iso (Fld.left (Fld.id _))
def F_api_Conf_Port : Fld T_api_Conf (T.int .i64) 32 := Fld.iso (Fld.right (Fld.left (Fld.id _)))
def F_api_Conf_Mark : Fld T_api_Conf T.u32 33 := Fld.iso (Fld.right (Fld.right (Fld.left (Fld.id _))))
def F_api_Conf_Peers : Fld T_api_Conf (T.sl T_api_Peer) 34 := Fld.iso (Fld.right (Fld.right (Fld.right (Fld.id _))))
structure S_pairline_Pair where
  Key : Str
  Value : Str
  deriving DecidableEq
def T_pairline_Pair : T := T.iso (T.prod T.str T.str) S_pairline_Pair (fun x => (x.Key, x.Value)) (fun p => ⟨p.1, p.2⟩) (fun _ => rfl)
def F_pairline_Pair_Key : Fld T_pairline_Pair T.str 0 := Fld.iso (Fld.left (Fld.id _))
def F_pairline_Pair_Value : Fld T_pairline_Pair T.str 1 := Fld.iso (Fld.right (Fld.id _))
def C_pairline_Pair := CmpC.iso (g := fun p => ⟨p.1, p.2⟩) (hfg := fun _ => rfl) (CmpC.prod CmpC.str CmpC.str) (fun (x y : S_pairline_Pair) => inferInstance) (f := fun x => (x.Key, x.Value)) (by rintro ⟨⟩ ⟨⟩ h; cases h; rfl)
structure S_api_Field where
  Word : Int
  Key : (Ar UInt8 32)
  N : UInt64
  End : S_api_Endpoint
  P : S_api_Prefix
  deriving DecidableEq
def T_api_Field : T := T.iso (T.prod (T.int .i64) (T.prod (T.arr 32 T.u8) (T.prod T.u64 (T.prod T_api_Endpoint T_api_Prefix)))) S_api_Field (fun x => (x.Word, x.Key, x.N, x.End, x.P)) (fun p => ⟨p.1, p.2.1, p.2.2.1, p.2.2.2.1, p.2.2.2.2⟩) (fun _ => rfl)
def F_api_Field_Word : Fld T_api_Field (T.int .i64) 0 := Fld.iso (Fld.left (Fld.id _))
def F_api_Field_Key : Fld T_api_Field (T.arr 32 T.u8) 1 := Fld.iso (Fld.right (Fld.left (Fld.id _)))
def F_api_Field_N : Fld T_api_Field T.u64 33 := Fld.iso (Fld.right (Fld.right (Fld.left (Fld.id _))))
def F_api_Field_End : Fld T_api_Field T_api_Endpoint 34 := Fld.iso (Fld.right (Fld.right (Fld.right (Fld.left (Fld.id _)))))
def F_api_Field_P : Fld T_api_Field T_api_Prefix 52 := Fld.iso (Fld.right (Fld.right (Fld.right (Fld.right (Fld.id _)))))
def C_api_Field := CmpC.iso (g := fun p => ⟨p.1, p.2.1, p.2.2.1, p.2.2.2.1, p.2.2.2.2⟩) (hfg := fun _ => rfl) (CmpC.prod (CmpC.int .i64) (CmpC.prod (CmpC.arr 32 CmpC.u8) (CmpC.prod CmpC.u64 (CmpC.prod C_api_Endpoint C_api_Prefix)))) (fun (x y : S_api_Field) => inferInstance) (f := fun x => (x.Word, x.Key, x.N, x.End, x.P)) (by rintro ⟨⟩ ⟨⟩ h; cases h; rfl)
structure S_r36_Pair where
  Key : Str
  Value : Str
  deriving DecidableEq
def T_r36_Pair : T := T.iso (T.prod T.str T.str) S_r36_Pair (fun x => (x.Key, x.Value)) (fun p => ⟨p.1, p.2⟩) (fun _ => rfl)
def F_r36_Pair_Key : Fld T_r36_Pair T.str 0 := Fld.iso (Fld.left (Fld.id _))
def F_r36_Pair_Value : Fld T_r36_Pair T.str 1 := Fld.iso (Fld.right (Fld.id _))
def C_r36_Pair := CmpC.iso (g := fun p => ⟨p.1, p.2⟩) (hfg := fun _ => rfl) (CmpC.prod CmpC.str CmpC.str) (fun (x y : S_r36_Pair) => inferInstance) (f := fun x => (x.Key, x.Value)) (by rintro ⟨⟩ ⟨⟩ h; cases h; rfl)
structure S_colon_reader where
  g_ : (Ar UInt16 8)
  n_ : Int
  gap_ : Int
  deriving DecidableEq
def T_colon_reader : T := T.iso (T.prod (T.arr 8 T.u16) (T.prod (T.int .i64) (T.int .i64))) S_colon_reader (fun x => (x.g_, x.n_, x.gap_)) (fun p => ⟨p.1, p.2.1, p.2.2⟩) (fun _ => rfl)
def F_colon_reader_g_ : Fld T_colon_reader (T.arr 8 T.u16) 0 := Fld.iso (Fld.left (Fld.id _))
def F_colon_reader_n_ : Fld T_colon_reader (T.int .i64) 8 := Fld.iso (Fld.right (Fld.left (Fld.id _)))
def F_colon_reader_gap_ : Fld T_colon_reader (T.int .i64) 9 := Fld.iso (Fld.right (Fld.right (Fld.id _)))
def C_colon_reader := CmpC.iso (g := fun p => ⟨p.1, p.2.1, p.2.2⟩) (hfg := fun _ => rfl) (CmpC.prod (CmpC.arr 8 CmpC.u16) (CmpC.prod (CmpC.int .i64) (CmpC.int .i64))) (fun (x y : S_colon_reader) => inferInstance) (f := fun x => (x.g_, x.n_, x.gap_)) (by rintro ⟨⟩ ⟨⟩ h; cases h; rfl)
structure S_runtime_boundsError where
  x_ : Int
  y_ : Int
  signed_ : Bool
  code_ : UInt8
  deriving DecidableEq
def T_runtime_boundsError : T := T.iso (T.prod (T.int .i64) (T.prod (T.int .i64) (T.prod T.b T.u8))) S_runtime_boundsError (fun x => (x.x_, x.y_, x.signed_, x.code_)) (fun p => ⟨p.1, p.2.1, p.2.2.1, p.2.2.2⟩) (fun _ => rfl)
def F_runtime_boundsError_x_ : Fld T_runtime_boundsError (T.int .i64) 0 := Fld.iso (Fld.left (Fld.id _))
def F_runtime_boundsError_y_ : Fld T_runtime_boundsError (T.int .i64) 1 := Fld.iso (Fld.right (Fld.left (Fld.id _)))
def F_runtime_boundsError_signed_ : Fld T_runtime_boundsError T.b 2 := Fld.iso (Fld.right (Fld.right (Fld.left (Fld.id _))))
def F_runtime_boundsError_code_ : Fld T_runtime_boundsError T.u8 3 := Fld.iso (Fld.right (Fld.right (Fld.right (Fld.id _))))
def C_runtime_boundsError := CmpC.iso (g := fun p => ⟨p.1, p.2.1, p.2.2.1, p.2.2.2⟩) (hfg := fun _ => rfl) (CmpC.prod (CmpC.int .i64) (CmpC.prod (CmpC.int .i64) (CmpC.prod CmpC.b CmpC.u8))) (fun (x y : S_runtime_boundsError) => inferInstance) (f := fun x => (x.x_, x.y_, x.signed_, x.code_)) (by rintro ⟨⟩ ⟨⟩ h; cases h; rfl)
structure S_runtime_errorAddressString where
  msg_ : Str
  addr_ : UInt64
  deriving DecidableEq
def T_runtime_errorAddressString : T := T.iso (T.prod T.str T.u64) S_runtime_errorAddressString (fun x => (x.msg_, x.addr_)) (fun p => ⟨p.1, p.2⟩) (fun _ => rfl)
def F_runtime_errorAddressString_msg_ : Fld T_runtime_errorAddressString T.str 0 := Fld.iso (Fld.left (Fld.id _))
def F_runtime_errorAddressString_addr_ : Fld T_runtime_errorAddressString T.u64 1 := Fld.iso (Fld.right (Fld.id _))
def C_runtime_errorAddressString := CmpC.iso (g := fun p => ⟨p.1, p.2⟩) (hfg := fun _ => rfl) (CmpC.prod CmpC.str CmpC.u64) (fun (x y : S_runtime_errorAddressString) => inferInstance) (f := fun x => (x.msg_, x.addr_)) (by rintro ⟨⟩ ⟨⟩ h; cases h; rfl)
structure S_strconv_NumError where
  Func : Str
  Num : Str
  Err : Bool
  deriving DecidableEq
def T_strconv_NumError : T := T.iso (T.prod T.str (T.prod T.str T.err)) S_strconv_NumError (fun x => (x.Func, x.Num, x.Err)) (fun p => ⟨p.1, p.2.1, p.2.2⟩) (fun _ => rfl)
def F_strconv_NumError_Func : Fld T_strconv_NumError T.str 0 := Fld.iso (Fld.left (Fld.id _))
def F_strconv_NumError_Num : Fld T_strconv_NumError T.str 1 := Fld.iso (Fld.right (Fld.left (Fld.id _)))
def F_strconv_NumError_Err : Fld T_strconv_NumError T.err 2 := Fld.iso (Fld.right (Fld.right (Fld.id _)))
structure S_errors_errorString where
  s_ : Str
  deriving DecidableEq
def T_errors_errorString : T := T.iso T.str S_errors_errorString (fun x => x.s_) (fun p => ⟨p⟩) (fun _ => rfl)
def F_errors_errorString_s_ : Fld T_errors_errorString T.str 0 := Fld.iso (Fld.id _)
def C_errors_errorString := CmpC.iso (g := fun p => ⟨p⟩) (hfg := fun _ => rfl) CmpC.str (fun (x y : S_errors_errorString) => inferInstance) (f := fun x => x.s_) (by rintro ⟨⟩ ⟨⟩ h; cases h; rfl)
end Go.Proofs.YtobejhpigbllpaaGreatDoor.Am
