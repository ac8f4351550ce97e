/- The contract of each function of the program that the law reaches: what it answers, as a Lean function, wherever that function answers. -/
import Derived.Test.YtocpbdnkmlpehaaV3
import Derived.Test.YtocpbdnkmlpehaaShelf
set_option maxRecDepth 100000
set_option linter.unusedVariables false
namespace Go.Proofs.Ytocpbdnkmlpehaa
open Go Go.VE Go.Proofs
noncomputable section
def tMove : Ty := .pair .bool (.pair .bool (.pair (.int .i64) (.pair (.int .i64) (.pair .str (.pair (.int .i64) (.int .i64))))))
abbrev TMove := Bool × Bool × Int × Int × ByteArray × Int × Int
def dMove : TMove := (false, (false, (0, (0, (ByteArray.empty, (0, 0))))))
def tl1Cur : Ty := .pair (.slice (.int .u8)) (.pair (.int .i64) (.int .i64))
abbrev Tl1Cur := (List Int) × Int × Int
def dl1Cur : Tl1Cur := ([], (0, 0))
def tNode : Ty := .pair (.int .i64) (.pair (.int .i64) (.pair (.int .i64) (.pair (.int .i64) (.slice (.int .i64)))))
abbrev TNode := Int × Int × Int × Int × (List Int)
def dNode : TNode := (0, (0, (0, (0, []))))
def tFs : Ty := .pair (.slice tNode) (.slice .str)
abbrev TFs := (List TNode) × (List ByteArray)
def dFs : TFs := ([], [])
def tStep : Ty := .pair (.int .i64) tFs
abbrev TStep := Int × TFs
def dStep : TStep := (0, dFs)
def tPool : Ty := .pair (.int .i64) (.pair (.int .i64) (.pair (.slice tStep) tMove))
abbrev TPool := Int × Int × (List TStep) × TMove
def dPool : TPool := (0, (0, ([], dMove)))
def tPut : Ty := .pair (.int .i64) .str
abbrev TPut := Int × ByteArray
def dPut : TPut := (0, ByteArray.empty)
def tDisk : Ty := .pair (.slice .str) (.slice tPut)
abbrev TDisk := (List ByteArray) × (List TPut)
def dDisk : TDisk := ([], [])
def tEvent : Ty := .pair (.int .i64) tPut
abbrev TEvent := Int × TPut
def dEvent : TEvent := (0, dPut)
def tys : List (Nat × TyI) := [
  (3, ⟨.int .i64, []⟩),
  (5, ⟨.int .u8, []⟩),
  (9, ⟨.str, []⟩),
  (22, ⟨.slice (.int .u8), []⟩),
  (29, ⟨.slice .str, []⟩),
  (77, ⟨.slice (.int .i64), []⟩),
  (107, ⟨tl1Cur, [(0, 22), (1, 3), (2, 3)]⟩)]
theorem glob : Glob Try.prog tys := ⟨by kernel_rfl, by kernel_rfl, by kernel_rfl⟩
/-! ### loop.example/g00483/laws.big -/
namespace laws_big
noncomputable def f (a0 : List Int) : Option Bool :=
  some (decide ((1048576 : Int) < (List.length a0 : Int)))
noncomputable def sig : Sig := { ins := [.imm (.slice (.int .u8))], outs := [(.bool, .imm)] }
noncomputable def S : FnSum := ⟨sig, fun p => f p⟩
noncomputable def C : Cfg := ⟨tys, []⟩
theorem run (p : DenP sig.inTys) : VE.run C false sig Try.f6 [] p = (S).f p := by kernel_rfl
theorem ok : FnOk Try.prog 6 S := fn_ok glob .nil Try.func6 (c := codeOf Try.f6) (by kernel_rfl) (by kernel_rfl) (bs := []) (by kernel_rfl) .nil (run)
end laws_big
/-! ### loop.example/g00483/spec.l1New -/
namespace spec_l1New
noncomputable def l0 {α : Type} (x0 : List Int) (K0 : Int → Option α) : Nat → Int → Int → Option α
  | 0, _, _ => none
  | k + 1, x1, x2 =>
   bif decide (x2 < (List.length x0 : Int)) then
    bif decide (x2 < 4000) then
     bif inB x2 (List.length x0) then
     let y1 : Int := IntKind.i64.wrap ((IntKind.i64.wrap (x1 * 131)) + (IntKind.i64.wrap (List.getD x0 (Int.toNat x2) 0)))
     let y2 : Int := IntKind.i64.wrap ((BitVec.ofInt 64 (IntKind.i64.wrap (y1 + 7)) &&& BitVec.ofInt 64 1073741823).toNat : Int)
     spec_l1New.l0 x0 K0 k y2 (IntKind.i64.wrap (x2 + 1))
     else none
    else
    K0 x1
   else
   K0 x1
noncomputable def f (a0 : List Int) : Option Tl1Cur :=
  spec_l1New.l0 a0
   (fun q3 => some (a0, (0, q3)))
   fuel (IntKind.i64.wrap ((26583 : Int) + (List.length a0 : Int))) 0
noncomputable def sig : Sig := { ins := [.imm (.slice (.int .u8))], outs := [(tl1Cur, .box)] }
noncomputable def S : FnSum := ⟨sig, fun p => f p⟩
noncomputable def C : Cfg := ⟨tys, []⟩
noncomputable def h0 : Templ := ⟨[(0, .c (.val (.slice (.int .u8)))), (3, .c (.val (.int .i64))), (4, .c (.val (.int .i64)))], []⟩
noncomputable def o0 : List (Ex × Templ) := [(.exit 0, ⟨[(0, .c (.val (.slice (.int .u8)))), (3, .c (.val (.int .i64)))], []⟩)]
noncomputable def L0 : LoopSum := ⟨h0, o0, fun p K => l0 p.1 (fun q0 => K (p.1, q0)) fuel p.2.1 p.2.2⟩
noncomputable def b0 : Code := loopN (codeOf Try.f33) 0
theorem r0 {α : Type} (K : DenO o0 → Option α) (n : Nat) (p : DenP h0.holes) : round C false b0 [] h0 o0 (fun p => l0 p.1 (fun q0 => K (p.1, q0)) n p.2.1 p.2.2) K p = l0 p.1 (fun q0 => K (p.1, q0)) (n + 1) p.2.1 p.2.2 := by kernel_rfl
theorem run (p : DenP sig.inTys) : VE.run C false sig Try.f33 [L0] p = (S).f p := by kernel_rfl
theorem lo0 : LoopOk C false b0 (L0) := loop_ok (bs := []) (by kernel_rfl) .nil (fun _ n p K => l0 p.1 (fun q0 => K (p.1, q0)) n p.2.1 p.2.2) fuel (fun _ _ _ => rfl) (fun _ _ _ => rfl) (fun _ n p K => r0 K n p)
theorem ok : FnOk Try.prog 33 S := fn_ok glob .nil Try.func33 (c := codeOf Try.f33) (by kernel_rfl) (by kernel_rfl) (bs := [b0]) (by kernel_rfl) (.cons lo0 .nil) (run)
end spec_l1New
/-! ### loop.example/g00483/spec.l1Byte -/
namespace spec_l1Byte
noncomputable def f (a0 : Tl1Cur) : Option (Int × Tl1Cur) :=
  let y1 : Int := IntKind.i64.wrap ((IntKind.i64.wrap (a0.2.2 * 6364136223846793005)) + 1442695040888963407)
  let y2 : Int := IntKind.i64.wrap ((BitVec.ofInt 64 (Int.fdiv y1 (2 ^ (min (Int.toNat 33) 64))) ^^^ BitVec.ofInt 64 (Int.fdiv y1 (2 ^ (min (Int.toNat 45) 64)))).toNat : Int)
  let y3 : Int := IntKind.i64.wrap ((BitVec.ofInt 64 y2 &&& BitVec.ofInt 64 255).toNat : Int)
  bif decide (a0.2.1 < (List.length a0.1 : Int)) then
   bif inB a0.2.1 (List.length a0.1) then
   let y4 : Int := IntKind.i64.wrap (y3 + (IntKind.i64.wrap (List.getD a0.1 (Int.toNat a0.2.1) 0)))
   let y5 : Int := IntKind.i64.wrap ((BitVec.ofInt 64 y4 &&& BitVec.ofInt 64 255).toNat : Int)
   some (y5, (a0.1, (IntKind.i64.wrap (a0.2.1 + 1), y1)))
   else none
  else
  some (y3, (a0.1, (a0.2.1, y1)))
noncomputable def sig : Sig := { ins := [.iop tl1Cur], outs := [(.int .i64, .imm)] }
noncomputable def S : FnSum := ⟨sig, fun p => f p⟩
noncomputable def C : Cfg := ⟨tys, []⟩
theorem run (p : DenP sig.inTys) : VE.run C false sig Try.f98 [] p = (S).f p := by kernel_rfl
theorem ok : FnOk Try.prog 98 S := fn_ok glob .nil Try.func98 (c := codeOf Try.f98) (by kernel_rfl) (by kernel_rfl) (bs := []) (by kernel_rfl) .nil (run)
end spec_l1Byte
/-! ### loop.example/g00483/spec.l1Below -/
namespace spec_l1Below
noncomputable def f (a0 : Tl1Cur) (a1 : Int) : Option (Int × Tl1Cur) :=
  bif decide (a1 ≤ 0) then
   some (0, a0)
  else
  bif decide (a1 ≤ 256) then
   (spec_l1Byte.f a0).bind fun r1 =>
   bif decide (a1 = 0) then none else
   some (Int.tmod r1.1 a1, r1.2)
  else
  (spec_l1Byte.f a0).bind fun r2 =>
  (spec_l1Byte.f r2.2).bind fun r3 =>
  (spec_l1Byte.f r3.2).bind fun r4 =>
  (spec_l1Byte.f r4.2).bind fun r5 =>
  let y6 : Int := IntKind.i64.wrap ((IntKind.i64.wrap (r2.1 * 16777216)) + (IntKind.i64.wrap (r3.1 * 65536)))
  let y7 : Int := IntKind.i64.wrap ((IntKind.i64.wrap (y6 + (IntKind.i64.wrap (r4.1 * 256)))) + r5.1)
  bif decide (a1 = 0) then none else
  some (Int.tmod y7 a1, r5.2)
noncomputable def sig : Sig := { ins := [.iop tl1Cur, .imm (.int .i64)], outs := [(.int .i64, .imm)] }
noncomputable def S : FnSum := ⟨sig, fun p => f p.1 p.2⟩
noncomputable def C : Cfg := ⟨tys, [(98, spec_l1Byte.S)]⟩
theorem run (p : DenP sig.inTys) : VE.run C false sig Try.f69 [] p = (S).f p := by kernel_rfl
theorem ok : FnOk Try.prog 69 S := fn_ok glob (.cons spec_l1Byte.ok .nil) Try.func69 (c := codeOf Try.f69) (by kernel_rfl) (by kernel_rfl) (bs := []) (by kernel_rfl) .nil (run)
end spec_l1Below
/-! ### loop.example/g00483/spec.l1PickInt -/
namespace spec_l1PickInt
noncomputable def f (a0 : Tl1Cur) (a1 : List Int) : Option (Int × Tl1Cur) :=
  (spec_l1Below.f a0 (List.length a1 : Int)).bind fun r1 =>
  bif inB r1.1 (List.length a1) then
  some (List.getD a1 (Int.toNat r1.1) 0, r1.2)
  else none
noncomputable def sig : Sig := { ins := [.iop tl1Cur, .imm (.slice (.int .i64))], outs := [(.int .i64, .imm)] }
noncomputable def S : FnSum := ⟨sig, fun p => f p.1 p.2⟩
noncomputable def C : Cfg := ⟨tys, [(69, spec_l1Below.S)]⟩
theorem run (p : DenP sig.inTys) : VE.run C false sig Try.f35 [] p = (S).f p := by kernel_rfl
theorem ok : FnOk Try.prog 35 S := fn_ok glob (.cons spec_l1Below.ok .nil) Try.func35 (c := codeOf Try.f35) (by kernel_rfl) (by kernel_rfl) (bs := []) (by kernel_rfl) .nil (run)
end spec_l1PickInt
/-! ### loop.example/g00483/spec.l7Text -/
namespace spec_l7Text
noncomputable def l0 {α : Type} (x1 : Int) (K0 : ByteArray → (List Int) → Int → Int → Option α) : Nat → ByteArray → Int → (List Int) → Int → Int → Option α
  | 0, _, _, _, _, _ => none
  | k + 1, x0, x2, x3, x4, x5 =>
   bif decide (x2 < x1) then
    (spec_l1Below.f (x3, (x4, x5)) 2).bind fun r2 =>
    let y3 : Int := IntKind.i64.wrap ((97 : Int) + (Int.tmod (IntKind.i64.wrap (x2 + r2.1)) 26))
    bif small (x0.size + (ofBytes [IntKind.u8.wrap y3]).size) then
    let y4 : ByteArray := x0 ++ (ofBytes [IntKind.u8.wrap y3])
    spec_l7Text.l0 x1 K0 k y4 (IntKind.i64.wrap (x2 + 1)) r2.2.1 r2.2.2.1 r2.2.2.2
    else none
   else
   K0 x0 x3 x4 x5
noncomputable def f (a0 : Tl1Cur) : Option (ByteArray × Tl1Cur) :=
  (spec_l1PickInt.f a0 [0, 1, 5, 15, 16, 17, 33, 64, 80, 81]).bind fun r1 =>
  spec_l7Text.l0 r1.1
   (fun q5 q6 q7 q8 => some (q5, (q6, (q7, q8))))
   fuel ⟨#[]⟩ 0 r1.2.1 r1.2.2.1 r1.2.2.2
noncomputable def sig : Sig := { ins := [.iop tl1Cur], outs := [(.str, .imm)] }
noncomputable def S : FnSum := ⟨sig, fun p => f p⟩
noncomputable def C : Cfg := ⟨tys, [(35, spec_l1PickInt.S), (69, spec_l1Below.S)]⟩
noncomputable def h0 : Templ := ⟨[(0, .c (.ptr 0 3 0)), (3, .c (.val .str)), (4, .c (.val (.int .i64))), (5, .c (.val (.int .i64))), (100000, .c (.ptr 0 3 0))], [.box [.val (.slice (.int .u8)), .val (.int .i64), .val (.int .i64)]]⟩
noncomputable def o0 : List (Ex × Templ) := [(.exit 0, ⟨[(3, .c (.val .str)), (100000, .c (.ptr 0 3 0))], [.box [.val (.slice (.int .u8)), .val (.int .i64), .val (.int .i64)]]⟩)]
noncomputable def L0 : LoopSum := ⟨h0, o0, fun p K => l0 p.2.1 (fun q0 q1 q2 q3 => K (q0, (q1, (q2, q3)))) fuel p.1 p.2.2.1 p.2.2.2.1 p.2.2.2.2.1 p.2.2.2.2.2⟩
noncomputable def b0 : Code := loopN (codeOf Try.f34) 0
theorem r0 {α : Type} (K : DenO o0 → Option α) (n : Nat) (p : DenP h0.holes) : round C false b0 [] h0 o0 (fun p => l0 p.2.1 (fun q0 q1 q2 q3 => K (q0, (q1, (q2, q3)))) n p.1 p.2.2.1 p.2.2.2.1 p.2.2.2.2.1 p.2.2.2.2.2) K p = l0 p.2.1 (fun q0 q1 q2 q3 => K (q0, (q1, (q2, q3)))) (n + 1) p.1 p.2.2.1 p.2.2.2.1 p.2.2.2.2.1 p.2.2.2.2.2 := by kernel_rfl
theorem run (p : DenP sig.inTys) : VE.run C false sig Try.f34 [L0] p = (S).f p := by kernel_rfl
theorem lo0 : LoopOk C false b0 (L0) := loop_ok (bs := []) (by kernel_rfl) .nil (fun _ n p K => l0 p.2.1 (fun q0 q1 q2 q3 => K (q0, (q1, (q2, q3)))) n p.1 p.2.2.1 p.2.2.2.1 p.2.2.2.2.1 p.2.2.2.2.2) fuel (fun _ _ _ => rfl) (fun _ _ _ => rfl) (fun _ n p K => r0 K n p)
theorem ok : FnOk Try.prog 34 S := fn_ok glob (.cons spec_l1PickInt.ok (.cons spec_l1Below.ok .nil)) Try.func34 (c := codeOf Try.f34) (by kernel_rfl) (by kernel_rfl) (bs := [b0]) (by kernel_rfl) (.cons lo0 .nil) (run)
end spec_l7Text
/-! ### loop.example/g00483/spec.l1Pick -/
namespace spec_l1Pick
noncomputable def f (a0 : Tl1Cur) (a1 : List ByteArray) : Option (ByteArray × Tl1Cur) :=
  (spec_l1Below.f a0 (List.length a1 : Int)).bind fun r1 =>
  bif inB r1.1 (List.length a1) then
  some (List.getD a1 (Int.toNat r1.1) ByteArray.empty, r1.2)
  else none
noncomputable def sig : Sig := { ins := [.iop tl1Cur, .imm (.slice .str)], outs := [(.str, .imm)] }
noncomputable def S : FnSum := ⟨sig, fun p => f p.1 p.2⟩
noncomputable def C : Cfg := ⟨tys, [(69, spec_l1Below.S)]⟩
theorem run (p : DenP sig.inTys) : VE.run C false sig Try.f36 [] p = (S).f p := by kernel_rfl
theorem ok : FnOk Try.prog 36 S := fn_ok glob (.cons spec_l1Below.ok .nil) Try.func36 (c := codeOf Try.f36) (by kernel_rfl) (by kernel_rfl) (bs := []) (by kernel_rfl) .nil (run)
end spec_l1Pick
/-! ### loop.example/g00483/spec.DrawWritten -/
namespace spec_DrawWritten
noncomputable def f (a0 : List Int) : Option (ByteArray × Int × ByteArray) :=
  (spec_l1New.f a0).bind fun r1 =>
  (spec_l7Text.f r1).bind fun r2 =>
  (spec_l1PickInt.f r2.2 [0, 1, 3, 16, 90, (-1)]).bind fun r3 =>
  (spec_l1Pick.f r3.2 [⟨#[]⟩, ⟨#[65]⟩, ⟨#[66, 67, 68, 69]⟩]).bind fun r4 =>
  some (r2.1, (r3.1, r4.1))
noncomputable def sig : Sig := { ins := [.imm (.slice (.int .u8))], outs := [(.str, .imm), (.int .i64, .imm), (.str, .imm)] }
noncomputable def S : FnSum := ⟨sig, fun p => f p⟩
noncomputable def C : Cfg := ⟨tys, [(33, spec_l1New.S), (34, spec_l7Text.S), (35, spec_l1PickInt.S), (36, spec_l1Pick.S)]⟩
theorem run (p : DenP sig.inTys) : VE.run C false sig Try.f7 [] p = (S).f p := by kernel_rfl
theorem ok : FnOk Try.prog 7 S := fn_ok glob (.cons spec_l1New.ok (.cons spec_l7Text.ok (.cons spec_l1PickInt.ok (.cons spec_l1Pick.ok .nil)))) Try.func7 (c := codeOf Try.f7) (by kernel_rfl) (by kernel_rfl) (bs := []) (by kernel_rfl) .nil (run)
end spec_DrawWritten
/-! ### loop.example/g00483/impl.within -/
namespace impl_within
noncomputable def f (a0 : Int) (a1 : Int) (a2 : Int) : Option Bool :=
  bif decide (a1 ≤ a0) then
   some (decide (a0 ≤ a2))
  else
  some false
noncomputable def sig : Sig := { ins := [.imm (.int .i64), .imm (.int .i64), .imm (.int .i64)], outs := [(.bool, .imm)] }
noncomputable def S : FnSum := ⟨sig, fun p => f p.1 p.2.1 p.2.2⟩
noncomputable def C : Cfg := ⟨tys, []⟩
theorem run (p : DenP sig.inTys) : VE.run C false sig Try.f37 [] p = (S).f p := by kernel_rfl
theorem ok : FnOk Try.prog 37 S := fn_ok glob .nil Try.func37 (c := codeOf Try.f37) (by kernel_rfl) (by kernel_rfl) (bs := []) (by kernel_rfl) .nil (run)
end impl_within
/-! ### strings.Repeat -/
namespace strings_Repeat
noncomputable def f : ByteArray → Int → Option ByteArray := VE.repeatF
noncomputable def sig : Sig := { ins := [.imm .str, .imm (.int .i64)], outs := [(.str, .imm)] }
noncomputable def S : FnSum := ⟨sig, fun p => f p.1 p.2⟩
theorem ok : FnOk Try.prog 38 S := VE.ok_repeat ⟨Try.f38, Try.func38, by kernel_rfl, by kernel_rfl⟩ (fun s c w h1 h2 => Try.strings_Repeat s c w h1 h2)
end strings_Repeat
/-! ### loop.example/g00483/impl.Written -/
namespace impl_Written
noncomputable def f (a0 : ByteArray) (a1 : Int) (a2 : ByteArray) : Option ByteArray :=
  (impl_within.f a1 0 100000).bind fun r1 =>
  bif !r1 then
   some a0
  else
  bif decide ((a0.size : Int) < a1) then
   (strings_Repeat.f ⟨#[0]⟩ (IntKind.i64.wrap (a1 - (a0.size : Int)))).bind fun r2 =>
   bif small (a0.size + r2.size) then
   bif inSl 0 a1 (a0 ++ r2).size then
   bif small (((a0 ++ r2).extract 0 (Int.toNat a1)).size + a2.size) then
   let y3 : ByteArray := ((a0 ++ r2).extract 0 (Int.toNat a1)) ++ a2
   bif inSl (if (IntKind.i64.wrap (a1 + (a2.size : Int))) < ((a0 ++ r2).size : Int) then IntKind.i64.wrap (a1 + (a2.size : Int)) else ((a0 ++ r2).size : Int)) ((a0 ++ r2).size : Int) (a0 ++ r2).size then
   bif small (y3.size + ((a0 ++ r2).extract (Int.toNat (if (IntKind.i64.wrap (a1 + (a2.size : Int))) < ((a0 ++ r2).size : Int) then IntKind.i64.wrap (a1 + (a2.size : Int)) else ((a0 ++ r2).size : Int))) (Int.toNat ((a0 ++ r2).size : Int))).size) then
   let y4 : ByteArray := y3 ++ ((a0 ++ r2).extract (Int.toNat (if (IntKind.i64.wrap (a1 + (a2.size : Int))) < ((a0 ++ r2).size : Int) then IntKind.i64.wrap (a1 + (a2.size : Int)) else ((a0 ++ r2).size : Int))) (Int.toNat ((a0 ++ r2).size : Int)))
   some y4
   else none
   else none
   else none
   else none
   else none
  else
  bif inSl 0 a1 a0.size then
  bif small ((a0.extract 0 (Int.toNat a1)).size + a2.size) then
  let y5 : ByteArray := (a0.extract 0 (Int.toNat a1)) ++ a2
  bif inSl (if (IntKind.i64.wrap (a1 + (a2.size : Int))) < (a0.size : Int) then IntKind.i64.wrap (a1 + (a2.size : Int)) else (a0.size : Int)) (a0.size : Int) a0.size then
  bif small (y5.size + (a0.extract (Int.toNat (if (IntKind.i64.wrap (a1 + (a2.size : Int))) < (a0.size : Int) then IntKind.i64.wrap (a1 + (a2.size : Int)) else (a0.size : Int))) (Int.toNat (a0.size : Int))).size) then
  let y6 : ByteArray := y5 ++ (a0.extract (Int.toNat (if (IntKind.i64.wrap (a1 + (a2.size : Int))) < (a0.size : Int) then IntKind.i64.wrap (a1 + (a2.size : Int)) else (a0.size : Int))) (Int.toNat (a0.size : Int)))
  some y6
  else none
  else none
  else none
  else none
noncomputable def sig : Sig := { ins := [.imm .str, .imm (.int .i64), .imm .str], outs := [(.str, .imm)] }
noncomputable def S : FnSum := ⟨sig, fun p => f p.1 p.2.1 p.2.2⟩
noncomputable def C : Cfg := ⟨tys, [(37, impl_within.S), (38, strings_Repeat.S)]⟩
theorem run (p : DenP sig.inTys) : VE.run C false sig Try.f8 [] p = (S).f p := by kernel_rfl
theorem ok : FnOk Try.prog 8 S := fn_ok glob (.cons impl_within.ok (.cons strings_Repeat.ok .nil)) Try.func8 (c := codeOf Try.f8) (by kernel_rfl) (by kernel_rfl) (bs := []) (by kernel_rfl) .nil (run)
end impl_Written
/-! ### loop.example/g00483/spec.l1In -/
namespace spec_l1In
noncomputable def f (a0 : Int) (a1 : Int) (a2 : Int) : Option Bool :=
  bif decide (a1 ≤ a0) then
   some (decide (a0 ≤ a2))
  else
  some false
noncomputable def sig : Sig := { ins := [.imm (.int .i64), .imm (.int .i64), .imm (.int .i64)], outs := [(.bool, .imm)] }
noncomputable def S : FnSum := ⟨sig, fun p => f p.1 p.2.1 p.2.2⟩
noncomputable def C : Cfg := ⟨tys, []⟩
theorem run (p : DenP sig.inTys) : VE.run C false sig Try.f39 [] p = (S).f p := by kernel_rfl
theorem ok : FnOk Try.prog 39 S := fn_ok glob .nil Try.func39 (c := codeOf Try.f39) (by kernel_rfl) (by kernel_rfl) (bs := []) (by kernel_rfl) .nil (run)
end spec_l1In
/-! ### loop.example/g00483/spec.Written -/
namespace spec_Written
noncomputable def f (a0 : ByteArray) (a1 : Int) (a2 : ByteArray) : Option ByteArray :=
  (spec_l1In.f a1 0 100000).bind fun r1 =>
  bif !r1 then
   some a0
  else
  bif decide (a1 < (a0.size : Int)) then
   bif inSl 0 a1 a0.size then
   bif decide ((IntKind.i64.wrap (a1 + (a2.size : Int))) < (a0.size : Int)) then
    bif inSl (IntKind.i64.wrap (a1 + (a2.size : Int))) (a0.size : Int) a0.size then
    bif small ((a0.extract 0 (Int.toNat a1)).size + a2.size) then
    let y2 : ByteArray := (a0.extract 0 (Int.toNat a1)) ++ a2
    bif small (y2.size + (a0.extract (Int.toNat (IntKind.i64.wrap (a1 + (a2.size : Int)))) (Int.toNat (a0.size : Int))).size) then
    let y3 : ByteArray := y2 ++ (a0.extract (Int.toNat (IntKind.i64.wrap (a1 + (a2.size : Int)))) (Int.toNat (a0.size : Int)))
    some y3
    else none
    else none
    else none
   else
   bif small ((a0.extract 0 (Int.toNat a1)).size + a2.size) then
   let y4 : ByteArray := (a0.extract 0 (Int.toNat a1)) ++ a2
   bif small (y4.size + (⟨#[]⟩ : ByteArray).size) then
   some (y4 ++ ⟨#[]⟩)
   else none
   else none
   else none
  else
  bif decide ((0 : Int) ≤ (IntKind.i64.wrap (a1 - (a0.size : Int)))) && (decide ((IntKind.i64.wrap (a1 - (a0.size : Int))) ≤ (IntKind.i64.wrap (a1 - (a0.size : Int)))) && small (Int.toNat (IntKind.i64.wrap (a1 - (a0.size : Int))))) then
  bif small (a0.size + (ofBytes (List.replicate (Int.toNat (IntKind.i64.wrap (a1 - (a0.size : Int)))) 0)).size) then
  let y5 : ByteArray := a0 ++ (ofBytes (List.replicate (Int.toNat (IntKind.i64.wrap (a1 - (a0.size : Int)))) 0))
  bif small (y5.size + a2.size) then
  bif small ((y5 ++ a2).size + (⟨#[]⟩ : ByteArray).size) then
  some ((y5 ++ a2) ++ ⟨#[]⟩)
  else none
  else none
  else none
  else none
noncomputable def sig : Sig := { ins := [.imm .str, .imm (.int .i64), .imm .str], outs := [(.str, .imm)] }
noncomputable def S : FnSum := ⟨sig, fun p => f p.1 p.2.1 p.2.2⟩
noncomputable def C : Cfg := ⟨tys, [(39, spec_l1In.S)]⟩
theorem run (p : DenP sig.inTys) : VE.run C false sig Try.f9 [] p = (S).f p := by kernel_rfl
theorem ok : FnOk Try.prog 9 S := fn_ok glob (.cons spec_l1In.ok .nil) Try.func9 (c := codeOf Try.f9) (by kernel_rfl) (by kernel_rfl) (bs := []) (by kernel_rfl) .nil (run)
end spec_Written
/-! ### loop.example/g00483/impl.Cut -/
namespace impl_Cut
noncomputable def f (a0 : ByteArray) (a1 : Int) : Option ByteArray :=
  (impl_within.f a1 0 100000).bind fun r1 =>
  bif !r1 then
   some a0
  else
  bif decide ((a0.size : Int) < a1) then
   (strings_Repeat.f ⟨#[0]⟩ (IntKind.i64.wrap (a1 - (a0.size : Int)))).bind fun r2 =>
   bif small (a0.size + r2.size) then
   some (a0 ++ r2)
   else none
  else
  bif inSl 0 a1 a0.size then
  some (a0.extract 0 (Int.toNat a1))
  else none
noncomputable def sig : Sig := { ins := [.imm .str, .imm (.int .i64)], outs := [(.str, .imm)] }
noncomputable def S : FnSum := ⟨sig, fun p => f p.1 p.2⟩
noncomputable def C : Cfg := ⟨tys, [(37, impl_within.S), (38, strings_Repeat.S)]⟩
theorem run (p : DenP sig.inTys) : VE.run C false sig Try.f10 [] p = (S).f p := by kernel_rfl
theorem ok : FnOk Try.prog 10 S := fn_ok glob (.cons impl_within.ok (.cons strings_Repeat.ok .nil)) Try.func10 (c := codeOf Try.f10) (by kernel_rfl) (by kernel_rfl) (bs := []) (by kernel_rfl) .nil (run)
end impl_Cut
/-! ### loop.example/g00483/laws.FnWritten -/
namespace laws_FnWritten
noncomputable def l0 {α : Type} (x0 : ByteArray) (x1 : Int) (x2 : ByteArray) (x3 : ByteArray) (K0 : Bool → Option α) (K1 : Option α) : Nat → Int → Option α
  | 0, _ => none
  | k + 1, x4 =>
   bif decide (x4 < (x0.size : Int)) then
    bif decide (x4 < x1) then
     bif inB x4 x3.size then
     bif inB x4 x0.size then
     bif !(decide ((byteAt x3 x4) = (byteAt x0 x4))) then
      K0 false
     else
     laws_FnWritten.l0 x0 x1 x2 x3 K0 K1 k (IntKind.i64.wrap (x4 + 1))
     else none
     else none
    else
    bif decide ((IntKind.i64.wrap (x1 + (x2.size : Int))) ≤ x4) then
     bif inB x4 x3.size then
     bif inB x4 x0.size then
     bif !(decide ((byteAt x3 x4) = (byteAt x0 x4))) then
      K0 false
     else
     laws_FnWritten.l0 x0 x1 x2 x3 K0 K1 k (IntKind.i64.wrap (x4 + 1))
     else none
     else none
    else
    laws_FnWritten.l0 x0 x1 x2 x3 K0 K1 k (IntKind.i64.wrap (x4 + 1))
   else
   K1
noncomputable def f (a0 : List Int) : Option Bool :=
  (laws_big.f a0).bind fun r1 =>
  bif r1 then
   some true
  else
  (spec_DrawWritten.f a0).bind fun r2 =>
  (impl_Written.f r2.1 r2.2.1 r2.2.2).bind fun r3 =>
  (spec_Written.f r2.1 r2.2.1 r2.2.2).bind fun r4 =>
  bif !(decide (r3 = r4)) then
   some false
  else
  (impl_Cut.f r2.1 (r2.1.size : Int)).bind fun r5 =>
  bif !(decide (r5 = r2.1)) then
   some false
  else
  bif decide (r2.2.1 < 0) then
   some (decide (r3 = r2.1))
  else
  bif decide ((r3.size : Int) < (IntKind.i64.wrap (r2.2.1 + (r2.2.2.size : Int)))) then
   some false
  else
  bif inSl r2.2.1 (IntKind.i64.wrap (r2.2.1 + (r2.2.2.size : Int))) r3.size then
  bif !(decide ((r3.extract (Int.toNat r2.2.1) (Int.toNat (IntKind.i64.wrap (r2.2.1 + (r2.2.2.size : Int))))) = r2.2.2)) then
   some false
  else
  bif decide ((r3.size : Int) < (r2.1.size : Int)) then
   some false
  else
  laws_FnWritten.l0 r2.1 r2.2.1 r2.2.2 r3
   (fun q6 => some q6)
   (
    (impl_Cut.f r3 r2.2.1).bind fun r7 =>
   (impl_Cut.f r2.1 r2.2.1).bind fun r8 =>
   some (decide (r7 = r8)))
   fuel 0
  else none
noncomputable def sig : Sig := { ins := [.imm (.slice (.int .u8))], outs := [(.bool, .imm)] }
noncomputable def S : FnSum := ⟨sig, fun p => f p⟩
noncomputable def C : Cfg := ⟨tys, [(6, laws_big.S), (7, spec_DrawWritten.S), (8, impl_Written.S), (9, spec_Written.S), (10, impl_Cut.S)]⟩
noncomputable def h0 : Templ := ⟨[(3, .c (.val .str)), (4, .c (.val (.int .i64))), (5, .c (.val .str)), (6, .c (.val .str)), (7, .c (.val (.int .i64)))], []⟩
noncomputable def o0 : List (Ex × Templ) := [(.ret, ⟨[(2, .c (.val .bool))], []⟩), (.exit 0, ⟨[(3, .c (.val .str)), (4, .c (.val (.int .i64))), (6, .c (.val .str))], []⟩)]
noncomputable def L0 : LoopSum := ⟨h0, o0, fun p K => l0 p.1 p.2.1 p.2.2.1 p.2.2.2.1 (fun q0 => K (.inl q0)) (K (.inr (p.1, (p.2.1, p.2.2.2.1)))) fuel p.2.2.2.2⟩
noncomputable def b0 : Code := loopN (codeOf Try.f3) 0
theorem r0 {α : Type} (K : DenO o0 → Option α) (n : Nat) (p : DenP h0.holes) : round C true b0 [] h0 o0 (fun p => l0 p.1 p.2.1 p.2.2.1 p.2.2.2.1 (fun q0 => K (.inl q0)) (K (.inr (p.1, (p.2.1, p.2.2.2.1)))) n p.2.2.2.2) K p = l0 p.1 p.2.1 p.2.2.1 p.2.2.2.1 (fun q0 => K (.inl q0)) (K (.inr (p.1, (p.2.1, p.2.2.2.1)))) (n + 1) p.2.2.2.2 := by kernel_rfl
theorem run (p : DenP sig.inTys) : VE.run C true sig Try.f3 [L0] p = (S).f p := by kernel_rfl
theorem lo0 : LoopOk C true b0 (L0) := loop_ok (bs := []) (by kernel_rfl) .nil (fun _ n p K => l0 p.1 p.2.1 p.2.2.1 p.2.2.2.1 (fun q0 => K (.inl q0)) (K (.inr (p.1, (p.2.1, p.2.2.2.1)))) n p.2.2.2.2) fuel (fun _ _ _ => rfl) (fun _ _ _ => rfl) (fun _ n p K => r0 K n p)
theorem ok : FnOk Try.prog 3 S := fn_ok glob (.cons laws_big.ok (.cons spec_DrawWritten.ok (.cons impl_Written.ok (.cons spec_Written.ok (.cons impl_Cut.ok .nil))))) Try.func3 (c := codeOf Try.f3) (by kernel_rfl) (by kernel_rfl) (bs := [b0]) (by kernel_rfl) (.cons lo0 .nil) (run)
end laws_FnWritten
end
end Go.Proofs.Ytocpbdnkmlpehaa
