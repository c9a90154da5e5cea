/- Functions' texts, compiled with hints, are what the compile makes of them. No condition. -/
import Derived.Test.YtoeplekdelhicaaGreatMaT
import Derived.KernelRfl
namespace Go.Proofs.YtoeplekdelhicaaGreat.ma
open Go.Ab
noncomputable def o303 : Option IFn := compF2 CX [] Tryz.f303
theorem e303 : compF CX Tryz.f303 = o303 := by kernel_rfl
noncomputable def o304 : Option IFn := compF2 CX [] Tryz.f304
theorem e304 : compF CX Tryz.f304 = o304 := by kernel_rfl
noncomputable def o305 : Option IFn := compF2 CX [] Tryz.f305
theorem e305 : compF CX Tryz.f305 = o305 := by kernel_rfl
noncomputable def o306 : Option IFn := compF2 CX [] Tryz.f306
theorem e306 : compF CX Tryz.f306 = o306 := by kernel_rfl
noncomputable def o307 : Option IFn := compF2 CX [] Tryz.f307
theorem e307 : compF CX Tryz.f307 = o307 := by kernel_rfl
noncomputable def o308 : Option IFn := compF2 CX [] Tryz.f308
theorem e308 : compF CX Tryz.f308 = o308 := by kernel_rfl
noncomputable def o309 : Option IFn := compF2 CX [] Tryz.f309
theorem e309 : compF CX Tryz.f309 = o309 := by kernel_rfl
end Go.Proofs.YtoeplekdelhicaaGreat.ma
