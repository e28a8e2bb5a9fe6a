/- The table of txn is the program's. -/
import Derived.Test.YtepdflohpondbaaTxnK
import Derived.Test.YtepdflohpondbaaProg
set_option maxRecDepth 100000
namespace Go.Fw.Sy.Tx
open Go.Proofs
theorem hmx : Try.prog.follows .mixedOrders = true := by kernel_rfl
def G0 : Glob := fun _ => none
theorem fnOk3 : FnOk Try.prog G0 3 fi3 := ⟨⟨Try.f3, _, Try.func3, rfl, by kernel_rfl, by kernel_rfl, by decide, by kernel_rfl, by kernel_rfl⟩⟩
theorem fnOk4 : FnOk Try.prog G0 4 fi4 := ⟨⟨Try.f4, _, Try.func4, rfl, by kernel_rfl, by kernel_rfl, by decide, by kernel_rfl, by kernel_rfl⟩⟩
theorem fnOk5 : FnOk Try.prog G0 5 fi5 := ⟨⟨Try.f5, _, Try.func5, rfl, by kernel_rfl, by kernel_rfl, by decide, by kernel_rfl, by kernel_rfl⟩⟩
theorem fnOk6 : FnOk Try.prog G0 6 fi6 := ⟨⟨Try.f6, _, Try.func6, rfl, by kernel_rfl, by kernel_rfl, by decide, by kernel_rfl, by kernel_rfl⟩⟩
theorem fnOk7 : FnOk Try.prog G0 7 fi7 := ⟨⟨Try.f7, _, Try.func7, rfl, by kernel_rfl, by kernel_rfl, by decide, by kernel_rfl, by kernel_rfl⟩⟩
theorem fnOk8 : FnOk Try.prog G0 8 fi8 := ⟨⟨Try.f8, _, Try.func8, rfl, by kernel_rfl, by kernel_rfl, by decide, by kernel_rfl, by kernel_rfl⟩⟩
theorem fnOk9 : FnOk Try.prog G0 9 fi9 := ⟨⟨Try.f9, _, Try.func9, rfl, by kernel_rfl, by kernel_rfl, by decide, by kernel_rfl, by kernel_rfl⟩⟩
theorem fnOk10 : FnOk Try.prog G0 10 fi10 := ⟨⟨Try.f10, _, Try.func10, rfl, by kernel_rfl, by kernel_rfl, by decide, by kernel_rfl, by kernel_rfl⟩⟩
theorem fnOk11 : FnOk Try.prog G0 11 fi11 := ⟨⟨Try.f11, _, Try.func11, rfl, by kernel_rfl, by kernel_rfl, by decide, by kernel_rfl, by kernel_rfl⟩⟩
theorem fnOk12 : FnOk Try.prog G0 12 fi12 := ⟨⟨Try.f12, _, Try.func12, rfl, by kernel_rfl, by kernel_rfl, by decide, by kernel_rfl, by kernel_rfl⟩⟩
theorem fnOk13 : FnOk Try.prog G0 13 fi13 := ⟨⟨Try.f13, _, Try.func13, rfl, by kernel_rfl, by kernel_rfl, by decide, by kernel_rfl, by kernel_rfl⟩⟩
theorem fnOk14 : FnOk Try.prog G0 14 fi14 := ⟨⟨Try.f14, _, Try.func14, rfl, by kernel_rfl, by kernel_rfl, by decide, by kernel_rfl, by kernel_rfl⟩⟩
theorem fnOk15 : FnOk Try.prog G0 15 fi15 := ⟨⟨Try.f15, _, Try.func15, rfl, by kernel_rfl, by kernel_rfl, by decide, by kernel_rfl, by kernel_rfl⟩⟩
theorem fnOk17 : FnOk Try.prog G0 17 fi17 := ⟨⟨Try.f17, _, Try.func17, rfl, by kernel_rfl, by kernel_rfl, by decide, by kernel_rfl, by kernel_rfl⟩⟩
theorem fnOk18 : FnOk Try.prog G0 18 fi18 := ⟨⟨Try.f18, _, Try.func18, rfl, by kernel_rfl, by kernel_rfl, by decide, by kernel_rfl, by kernel_rfl⟩⟩
theorem fnOk19 : FnOk Try.prog G0 19 fi19 := ⟨⟨Try.f19, _, Try.func19, rfl, by kernel_rfl, by kernel_rfl, by decide, by kernel_rfl, by kernel_rfl⟩⟩
theorem fnOk20 : FnOk Try.prog G0 20 fi20 := ⟨⟨Try.f20, _, Try.func20, rfl, by kernel_rfl, by kernel_rfl, by decide, by kernel_rfl, by kernel_rfl⟩⟩
theorem fnOk21 : FnOk Try.prog G0 21 fi21 := ⟨⟨Try.f21, _, Try.func21, rfl, by kernel_rfl, by kernel_rfl, by decide, by kernel_rfl, by kernel_rfl⟩⟩
theorem fnOk22 : FnOk Try.prog G0 22 fi22 := ⟨⟨Try.f22, _, Try.func22, rfl, by kernel_rfl, by kernel_rfl, by decide, by kernel_rfl, by kernel_rfl⟩⟩
theorem fnOk23 : FnOk Try.prog G0 23 fi23 := ⟨⟨Try.f23, _, Try.func23, rfl, by kernel_rfl, by kernel_rfl, by decide, by kernel_rfl, by kernel_rfl⟩⟩
theorem fnOk24 : FnOk Try.prog G0 24 fi24 := ⟨⟨Try.f24, _, Try.func24, rfl, by kernel_rfl, by kernel_rfl, by decide, by kernel_rfl, by kernel_rfl⟩⟩
theorem fnOk25 : FnOk Try.prog G0 25 fi25 := ⟨⟨Try.f25, _, Try.func25, rfl, by kernel_rfl, by kernel_rfl, by decide, by kernel_rfl, by kernel_rfl⟩⟩
theorem fnOk26 : FnOk Try.prog G0 26 fi26 := ⟨⟨Try.f26, _, Try.func26, rfl, by kernel_rfl, by kernel_rfl, by decide, by kernel_rfl, by kernel_rfl⟩⟩
theorem fnOk30 : FnOk Try.prog G0 30 fi30 := ⟨⟨Try.f30, _, Try.func30, rfl, by kernel_rfl, by kernel_rfl, by decide, by kernel_rfl, by kernel_rfl⟩⟩
theorem fnOk31 : FnOk Try.prog G0 31 fi31 := ⟨⟨Try.f31, _, Try.func31, rfl, by kernel_rfl, by kernel_rfl, by decide, by kernel_rfl, by kernel_rfl⟩⟩
theorem fnOk32 : FnOk Try.prog G0 32 fi32 := ⟨⟨Try.f32, _, Try.func32, rfl, by kernel_rfl, by kernel_rfl, by decide, by kernel_rfl, by kernel_rfl⟩⟩
theorem fnOk33 : FnOk Try.prog G0 33 fi33 := ⟨⟨Try.f33, _, Try.func33, rfl, by kernel_rfl, by kernel_rfl, by decide, by kernel_rfl, by kernel_rfl⟩⟩
theorem fnOk34 : FnOk Try.prog G0 34 fi34 := ⟨⟨Try.f34, _, Try.func34, rfl, by kernel_rfl, by kernel_rfl, by decide, by kernel_rfl, by kernel_rfl⟩⟩
theorem fnOk35 : FnOk Try.prog G0 35 fi35 := ⟨⟨Try.f35, _, Try.func35, rfl, by kernel_rfl, by kernel_rfl, by decide, by kernel_rfl, by kernel_rfl⟩⟩
theorem fnOk36 : FnOk Try.prog G0 36 fi36 := ⟨⟨Try.f36, _, Try.func36, rfl, by kernel_rfl, by kernel_rfl, by decide, by kernel_rfl, by kernel_rfl⟩⟩
theorem fnOk37 : FnOk Try.prog G0 37 fi37 := ⟨⟨Try.f37, _, Try.func37, rfl, by kernel_rfl, by kernel_rfl, by decide, by kernel_rfl, by kernel_rfl⟩⟩
theorem fnOk38 : FnOk Try.prog G0 38 fi38 := ⟨⟨Try.f38, _, Try.func38, rfl, by kernel_rfl, by kernel_rfl, by decide, by kernel_rfl, by kernel_rfl⟩⟩
theorem fnOk39 : FnOk Try.prog G0 39 fi39 := ⟨⟨Try.f39, _, Try.func39, rfl, by kernel_rfl, by kernel_rfl, by decide, by kernel_rfl, by kernel_rfl⟩⟩
theorem fnOk40 : FnOk Try.prog G0 40 fi40 := ⟨⟨Try.f40, _, Try.func40, rfl, by kernel_rfl, by kernel_rfl, by decide, by kernel_rfl, by kernel_rfl⟩⟩
theorem fnOk41 : FnOk Try.prog G0 41 fi41 := ⟨⟨Try.f41, _, Try.func41, rfl, by kernel_rfl, by kernel_rfl, by decide, by kernel_rfl, by kernel_rfl⟩⟩
theorem fnOk42 : FnOk Try.prog G0 42 fi42 := ⟨⟨Try.f42, _, Try.func42, rfl, by kernel_rfl, by kernel_rfl, by decide, by kernel_rfl, by kernel_rfl⟩⟩
theorem fnOk43 : FnOk Try.prog G0 43 fi43 := ⟨⟨Try.f43, _, Try.func43, rfl, by kernel_rfl, by kernel_rfl, by decide, by kernel_rfl, by kernel_rfl⟩⟩
theorem fnOk44 : FnOk Try.prog G0 44 fi44 := ⟨⟨Try.f44, _, Try.func44, rfl, by kernel_rfl, by kernel_rfl, by decide, by kernel_rfl, by kernel_rfl⟩⟩
theorem fnOk45 : FnOk Try.prog G0 45 fi45 := ⟨⟨Try.f45, _, Try.func45, rfl, by kernel_rfl, by kernel_rfl, by decide, by kernel_rfl, by kernel_rfl⟩⟩
theorem fnOk46 : FnOk Try.prog G0 46 fi46 := ⟨⟨Try.f46, _, Try.func46, rfl, by kernel_rfl, by kernel_rfl, by decide, by kernel_rfl, by kernel_rfl⟩⟩
theorem fnOk47 : FnOk Try.prog G0 47 fi47 := ⟨⟨Try.f47, _, Try.func47, rfl, by kernel_rfl, by kernel_rfl, by decide, by kernel_rfl, by kernel_rfl⟩⟩
theorem fnOk50 : FnOk Try.prog G0 50 fi50 := ⟨⟨Try.f50, _, Try.func50, rfl, by kernel_rfl, by kernel_rfl, by decide, by kernel_rfl, by kernel_rfl⟩⟩
theorem fnOk51 : FnOk Try.prog G0 51 fi51 := ⟨⟨Try.f51, _, Try.func51, rfl, by kernel_rfl, by kernel_rfl, by decide, by kernel_rfl, by kernel_rfl⟩⟩
theorem fnOk52 : FnOk Try.prog G0 52 fi52 := ⟨⟨Try.f52, _, Try.func52, rfl, by kernel_rfl, by kernel_rfl, by decide, by kernel_rfl, by kernel_rfl⟩⟩
theorem fnOk53 : FnOk Try.prog G0 53 fi53 := ⟨⟨Try.f53, _, Try.func53, rfl, by kernel_rfl, by kernel_rfl, by decide, by kernel_rfl, by kernel_rfl⟩⟩
theorem fnOk54 : FnOk Try.prog G0 54 fi54 := ⟨⟨Try.f54, _, Try.func54, rfl, by kernel_rfl, by kernel_rfl, by decide, by kernel_rfl, by kernel_rfl⟩⟩
theorem fnOk55 : FnOk Try.prog G0 55 fi55 := ⟨⟨Try.f55, _, Try.func55, rfl, by kernel_rfl, by kernel_rfl, by decide, by kernel_rfl, by kernel_rfl⟩⟩
theorem fnOk56 : FnOk Try.prog G0 56 fi56 := ⟨⟨Try.f56, _, Try.func56, rfl, by kernel_rfl, by kernel_rfl, by decide, by kernel_rfl, by kernel_rfl⟩⟩
theorem fnOk57 : FnOk Try.prog G0 57 fi57 := ⟨⟨Try.f57, _, Try.func57, rfl, by kernel_rfl, by kernel_rfl, by decide, by kernel_rfl, by kernel_rfl⟩⟩
theorem fnOk58 : FnOk Try.prog G0 58 fi58 := ⟨⟨Try.f58, _, Try.func58, rfl, by kernel_rfl, by kernel_rfl, by decide, by kernel_rfl, by kernel_rfl⟩⟩
theorem fnOk59 : FnOk Try.prog G0 59 fi59 := ⟨⟨Try.f59, _, Try.func59, rfl, by kernel_rfl, by kernel_rfl, by decide, by kernel_rfl, by kernel_rfl⟩⟩
theorem fnOk60 : FnOk Try.prog G0 60 fi60 := ⟨⟨Try.f60, _, Try.func60, rfl, by kernel_rfl, by kernel_rfl, by decide, by kernel_rfl, by kernel_rfl⟩⟩
theorem fnOk61 : FnOk Try.prog G0 61 fi61 := ⟨⟨Try.f61, _, Try.func61, rfl, by kernel_rfl, by kernel_rfl, by decide, by kernel_rfl, by kernel_rfl⟩⟩
theorem fnOk62 : FnOk Try.prog G0 62 fi62 := ⟨⟨Try.f62, _, Try.func62, rfl, by kernel_rfl, by kernel_rfl, by decide, by kernel_rfl, by kernel_rfl⟩⟩
theorem fnOk72 : FnOk Try.prog G0 72 fi72 := ⟨⟨Try.f72, _, Try.func72, rfl, by kernel_rfl, by kernel_rfl, by decide, by kernel_rfl, by kernel_rfl⟩⟩
theorem fnOk73 : FnOk Try.prog G0 73 fi73 := ⟨⟨Try.f73, _, Try.func73, rfl, by kernel_rfl, by kernel_rfl, by decide, by kernel_rfl, by kernel_rfl⟩⟩
theorem fnOk74 : FnOk Try.prog G0 74 fi74 := ⟨⟨Try.f74, _, Try.func74, rfl, by kernel_rfl, by kernel_rfl, by decide, by kernel_rfl, by kernel_rfl⟩⟩
theorem fnOk75 : FnOk Try.prog G0 75 fi75 := ⟨⟨Try.f75, _, Try.func75, rfl, by kernel_rfl, by kernel_rfl, by decide, by kernel_rfl, by kernel_rfl⟩⟩
theorem fnOk76 : FnOk Try.prog G0 76 fi76 := ⟨⟨Try.f76, _, Try.func76, rfl, by kernel_rfl, by kernel_rfl, by decide, by kernel_rfl, by kernel_rfl⟩⟩
theorem fnOk77 : FnOk Try.prog G0 77 fi77 := ⟨⟨Try.f77, _, Try.func77, rfl, by kernel_rfl, by kernel_rfl, by decide, by kernel_rfl, by kernel_rfl⟩⟩
theorem fnOk78 : FnOk Try.prog G0 78 fi78 := ⟨⟨Try.f78, _, Try.func78, rfl, by kernel_rfl, by kernel_rfl, by decide, by kernel_rfl, by kernel_rfl⟩⟩
theorem fnOk79 : FnOk Try.prog G0 79 fi79 := ⟨⟨Try.f79, _, Try.func79, rfl, by kernel_rfl, by kernel_rfl, by decide, by kernel_rfl, by kernel_rfl⟩⟩
theorem fnOk80 : FnOk Try.prog G0 80 fi80 := ⟨⟨Try.f80, _, Try.func80, rfl, by kernel_rfl, by kernel_rfl, by decide, by kernel_rfl, by kernel_rfl⟩⟩
theorem fnOk81 : FnOk Try.prog G0 81 fi81 := ⟨⟨Try.f81, _, Try.func81, rfl, by kernel_rfl, by kernel_rfl, by decide, by kernel_rfl, by kernel_rfl⟩⟩
theorem fnOk94 : FnOk Try.prog G0 94 fi94 := ⟨⟨Try.f94, _, Try.func94, rfl, by kernel_rfl, by kernel_rfl, by decide, by kernel_rfl, by kernel_rfl⟩⟩
theorem fnOk95 : FnOk Try.prog G0 95 fi95 := ⟨⟨Try.f95, _, Try.func95, rfl, by kernel_rfl, by kernel_rfl, by decide, by kernel_rfl, by kernel_rfl⟩⟩
theorem tbl_ok : ∀ f fi, tbl f = some fi → FnOk Try.prog G0 f fi := by
  intro f fi h
  unfold tbl at h
  split at h
  · injection h with h; subst h; exact fnOk3
  · injection h with h; subst h; exact fnOk4
  · injection h with h; subst h; exact fnOk5
  · injection h with h; subst h; exact fnOk6
  · injection h with h; subst h; exact fnOk7
  · injection h with h; subst h; exact fnOk8
  · injection h with h; subst h; exact fnOk9
  · injection h with h; subst h; exact fnOk10
  · injection h with h; subst h; exact fnOk11
  · injection h with h; subst h; exact fnOk12
  · injection h with h; subst h; exact fnOk13
  · injection h with h; subst h; exact fnOk14
  · injection h with h; subst h; exact fnOk15
  · injection h with h; subst h; exact fnOk17
  · injection h with h; subst h; exact fnOk18
  · injection h with h; subst h; exact fnOk19
  · injection h with h; subst h; exact fnOk20
  · injection h with h; subst h; exact fnOk21
  · injection h with h; subst h; exact fnOk22
  · injection h with h; subst h; exact fnOk23
  · injection h with h; subst h; exact fnOk24
  · injection h with h; subst h; exact fnOk25
  · injection h with h; subst h; exact fnOk26
  · injection h with h; subst h; exact fnOk30
  · injection h with h; subst h; exact fnOk31
  · injection h with h; subst h; exact fnOk32
  · injection h with h; subst h; exact fnOk33
  · injection h with h; subst h; exact fnOk34
  · injection h with h; subst h; exact fnOk35
  · injection h with h; subst h; exact fnOk36
  · injection h with h; subst h; exact fnOk37
  · injection h with h; subst h; exact fnOk38
  · injection h with h; subst h; exact fnOk39
  · injection h with h; subst h; exact fnOk40
  · injection h with h; subst h; exact fnOk41
  · injection h with h; subst h; exact fnOk42
  · injection h with h; subst h; exact fnOk43
  · injection h with h; subst h; exact fnOk44
  · injection h with h; subst h; exact fnOk45
  · injection h with h; subst h; exact fnOk46
  · injection h with h; subst h; exact fnOk47
  · injection h with h; subst h; exact fnOk50
  · injection h with h; subst h; exact fnOk51
  · injection h with h; subst h; exact fnOk52
  · injection h with h; subst h; exact fnOk53
  · injection h with h; subst h; exact fnOk54
  · injection h with h; subst h; exact fnOk55
  · injection h with h; subst h; exact fnOk56
  · injection h with h; subst h; exact fnOk57
  · injection h with h; subst h; exact fnOk58
  · injection h with h; subst h; exact fnOk59
  · injection h with h; subst h; exact fnOk60
  · injection h with h; subst h; exact fnOk61
  · injection h with h; subst h; exact fnOk62
  · injection h with h; subst h; exact fnOk72
  · injection h with h; subst h; exact fnOk73
  · injection h with h; subst h; exact fnOk74
  · injection h with h; subst h; exact fnOk75
  · injection h with h; subst h; exact fnOk76
  · injection h with h; subst h; exact fnOk77
  · injection h with h; subst h; exact fnOk78
  · injection h with h; subst h; exact fnOk79
  · injection h with h; subst h; exact fnOk80
  · injection h with h; subst h; exact fnOk81
  · injection h with h; subst h; exact fnOk94
  · injection h with h; subst h; exact fnOk95
  · cases h
end Go.Fw.Sy.Tx
