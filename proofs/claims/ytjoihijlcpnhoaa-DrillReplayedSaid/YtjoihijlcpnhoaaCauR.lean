/- (The rows of entries stand in LogC.) -/
import Derived.Test.YtjoihijlcpnhoaaDrC
import Derived.Test.YtjoihijlcpnhoaaEntE

