/- kerbsidelaw49: sane's run, in plain Lean. -/
import Derived.Test.YtjncmlglhegnaaaGreatDoorDevI
namespace Go.Proofs.YtjncmlglhegnaaaGreatDoor
def zed8 : List Int := [0, 0, 0, 0, 0, 0, 0, 0]
def loan0 : LoanV := ⟨2, 50, 0, false⟩
def dev0 : DevV := ⟨2, [], loan0, ⟨0, [], 0, false⟩⟩
def sO1 : DV × Option DevV × Int := openD newD 2 loan0
def sW1 : DV × DevV × Int := writeD sO1.1 dev0 4 zed8 [97]
def sS1 : DV × DevV × Int := spendD sW1.1 sW1.2.1 5 zed8 10
def sH1 : DV × DevV × Int × List EntV := handD sS1.1 sS1.2.1
def sW2 : DV × DevV × Int := writeD sH1.1 sH1.2.1 6 zed8 [98]
def sD2 : DV := StartF (crashF sW2.1 [])
def sO2 : DV × Option DevV × Int := openD sD2 2 loan0
def dev2 : DevV := sO2.2.1.getD dev0
def sW3 : DV × DevV × Int := writeD sO2.1 dev2 6 zed8 [99]
def sH3 : DV × DevV × Int × List EntV := handD sW3.1 sW3.2.1
theorem sn1 : sO1.2 = (some dev0, 0) := by kernel_rfl
theorem sn2 : sW1.2.2 = 0 := by kernel_rfl
theorem sn3 : sS1.2.2 = 0 := by kernel_rfl
theorem sn4 : sH1.2.2.1 = 0 := by kernel_rfl
theorem sn5 : sH1.2.2.2.map (·.text) = [[97], [33, 115, 49, 48, 59]] := by kernel_rfl
theorem sn6 : sW2.2.2 = 0 := by kernel_rfl
theorem sn7 : sO2.2 = (some dev2, 0) := by kernel_rfl
theorem sn8 : dev2.ents.length = 2 := by kernel_rfl
theorem sn9 : sW3.2.2 = 0 := by kernel_rfl
theorem sn10 : sH3.2.2.1 = 0 := by kernel_rfl
theorem sn11 : sH3.2.2.2.map (·.text) = [[97], [33, 115, 49, 48, 59], [99]] := by kernel_rfl
end Go.Proofs.YtjncmlglhegnaaaGreatDoor
