/- The table is the program's. -/
import Derived.Test.YtbhickepoifepaaDoorAddrT4
set_option maxRecDepth 100000
namespace Go.Fw.Sy.Ad
open Go.Proofs
theorem hmx : Tryd.prog.follows .mixedOrders = true := by kernel_rfl
variable (m : Int)
theorem fnOk3 : FnOk Tryd.prog (GA m) 3 fi3 := ⟨⟨Tryd.f3, _, Tryd.func3, rfl, by kernel_rfl, by kernel_rfl, by decide, by kernel_rfl, by kernel_rfl⟩⟩
theorem fnOk4 : FnOk Tryd.prog (GA m) 4 fi4 := ⟨⟨Tryd.f4, _, Tryd.func4, rfl, by kernel_rfl, by kernel_rfl, by decide, by kernel_rfl, by kernel_rfl⟩⟩
theorem fnOk5 : FnOk Tryd.prog (GA m) 5 fi5 := ⟨⟨Tryd.f5, _, Tryd.func5, rfl, by kernel_rfl, by kernel_rfl, by decide, by kernel_rfl, by kernel_rfl⟩⟩
theorem fnOk6 : FnOk Tryd.prog (GA m) 6 fi6 := ⟨⟨Tryd.f6, _, Tryd.func6, rfl, by kernel_rfl, by kernel_rfl, by decide, by kernel_rfl, by kernel_rfl⟩⟩
theorem fnOk7 : FnOk Tryd.prog (GA m) 7 fi7 := ⟨⟨Tryd.f7, _, Tryd.func7, rfl, by kernel_rfl, by kernel_rfl, by decide, by kernel_rfl, by kernel_rfl⟩⟩
theorem fnOk8 : FnOk Tryd.prog (GA m) 8 fi8 := ⟨⟨Tryd.f8, _, Tryd.func8, rfl, by kernel_rfl, by kernel_rfl, by decide, by kernel_rfl, by kernel_rfl⟩⟩
theorem fnOk9 : FnOk Tryd.prog (GA m) 9 fi9 := ⟨⟨Tryd.f9, _, Tryd.func9, rfl, by kernel_rfl, by kernel_rfl, by decide, by kernel_rfl, by kernel_rfl⟩⟩
theorem fnOk10 : FnOk Tryd.prog (GA m) 10 fi10 := ⟨⟨Tryd.f10, _, Tryd.func10, rfl, by kernel_rfl, by kernel_rfl, by decide, by kernel_rfl, by kernel_rfl⟩⟩
theorem fnOk11 : FnOk Tryd.prog (GA m) 11 fi11 := ⟨⟨Tryd.f11, _, Tryd.func11, rfl, by kernel_rfl, by kernel_rfl, by decide, by kernel_rfl, by kernel_rfl⟩⟩
theorem fnOk12 : FnOk Tryd.prog (GA m) 12 fi12 := ⟨⟨Tryd.f12, _, Tryd.func12, rfl, by kernel_rfl, by kernel_rfl, by decide, by kernel_rfl, by kernel_rfl⟩⟩
theorem fnOk13 : FnOk Tryd.prog (GA m) 13 fi13 := ⟨⟨Tryd.f13, _, Tryd.func13, rfl, by kernel_rfl, by kernel_rfl, by decide, by kernel_rfl, by kernel_rfl⟩⟩
theorem fnOk15 : FnOk Tryd.prog (GA m) 15 fi15 := ⟨⟨Tryd.f15, _, Tryd.func15, rfl, by kernel_rfl, by kernel_rfl, by decide, by kernel_rfl, by kernel_rfl⟩⟩
theorem fnOk17 : FnOk Tryd.prog (GA m) 17 fi17 := ⟨⟨Tryd.f17, _, Tryd.func17, rfl, by kernel_rfl, by kernel_rfl, by decide, by kernel_rfl, by kernel_rfl⟩⟩
theorem fnOk19 : FnOk Tryd.prog (GA m) 19 fi19 := ⟨⟨Tryd.f19, _, Tryd.func19, rfl, by kernel_rfl, by kernel_rfl, by decide, by kernel_rfl, by kernel_rfl⟩⟩
theorem fnOk21 : FnOk Tryd.prog (GA m) 21 fi21 := ⟨⟨Tryd.f21, _, Tryd.func21, rfl, by kernel_rfl, by kernel_rfl, by decide, by kernel_rfl, by kernel_rfl⟩⟩
theorem fnOk22 : FnOk Tryd.prog (GA m) 22 fi22 := ⟨⟨Tryd.f22, _, Tryd.func22, rfl, by kernel_rfl, by kernel_rfl, by decide, by kernel_rfl, by kernel_rfl⟩⟩
theorem fnOk23 : FnOk Tryd.prog (GA m) 23 fi23 := ⟨⟨Tryd.f23, _, Tryd.func23, rfl, by kernel_rfl, by kernel_rfl, by decide, by kernel_rfl, by kernel_rfl⟩⟩
theorem fnOk25 : FnOk Tryd.prog (GA m) 25 fi25 := ⟨⟨Tryd.f25, _, Tryd.func25, rfl, by kernel_rfl, by kernel_rfl, by decide, by kernel_rfl, by kernel_rfl⟩⟩
theorem fnOk14 : FnOk Tryd.prog (GA m) 14 fi14 := ⟨⟨Tryd.f14, _, Tryd.func14, rfl, by kernel_rfl, by kernel_rfl, by decide, by kernel_rfl, by kernel_rfl⟩⟩
theorem fnOk16 : FnOk Tryd.prog (GA m) 16 fi16 := ⟨⟨Tryd.f16, _, Tryd.func16, rfl, by kernel_rfl, by kernel_rfl, by decide, by kernel_rfl, by kernel_rfl⟩⟩
theorem fnOk18 : FnOk Tryd.prog (GA m) 18 fi18 := ⟨⟨Tryd.f18, _, Tryd.func18, rfl, by kernel_rfl, by kernel_rfl, by decide, by kernel_rfl, by kernel_rfl⟩⟩
theorem fnOk20 : FnOk Tryd.prog (GA m) 20 fi20 := ⟨⟨Tryd.f20, _, Tryd.func20, rfl, by kernel_rfl, by kernel_rfl, by decide, by kernel_rfl, by kernel_rfl⟩⟩
theorem fnOk26 : FnOk Tryd.prog (GA m) 26 fi26 := ⟨⟨Tryd.f26, _, Tryd.func26, rfl, by kernel_rfl, by kernel_rfl, by decide, by kernel_rfl, by kernel_rfl⟩⟩
theorem fnOk29 : FnOk Tryd.prog (GA m) 29 fi29 := ⟨⟨Tryd.f29, _, Tryd.func29, rfl, by kernel_rfl, by kernel_rfl, by decide, by kernel_rfl, by kernel_rfl⟩⟩
theorem fnOk30 : FnOk Tryd.prog (GA m) 30 fi30 := ⟨⟨Tryd.f30, _, Tryd.func30, rfl, by kernel_rfl, by kernel_rfl, by decide, by kernel_rfl, by kernel_rfl⟩⟩
theorem fnOk37 : FnOk Tryd.prog (GA m) 37 fi37 := ⟨⟨Tryd.f37, _, Tryd.func37, rfl, by kernel_rfl, by kernel_rfl, by decide, by kernel_rfl, by kernel_rfl⟩⟩
theorem fnOk38 : FnOk Tryd.prog (GA m) 38 fi38 := ⟨⟨Tryd.f38, _, Tryd.func38, rfl, by kernel_rfl, by kernel_rfl, by decide, by kernel_rfl, by kernel_rfl⟩⟩
theorem fnOk45 : FnOk Tryd.prog (GA m) 45 fi45 := ⟨⟨Tryd.f45, _, Tryd.func45, rfl, by kernel_rfl, by kernel_rfl, by decide, by kernel_rfl, by kernel_rfl⟩⟩
theorem fnOk46 : FnOk Tryd.prog (GA m) 46 fi46 := ⟨⟨Tryd.f46, _, Tryd.func46, rfl, by kernel_rfl, by kernel_rfl, by decide, by kernel_rfl, by kernel_rfl⟩⟩
end Go.Fw.Sy.Ad
